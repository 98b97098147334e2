/- Layer 11: the law WireTells. -/
import Derived.Test.YtidaedchmjlbfaaGreatC11aw
import Derived.Test.YtidaedchmjlbfaaGreatC11rd
import Derived.Test.YtidaedchmjlbfaaGreatC11op
namespace Go.Proofs.YtidaedchmjlbfaaGreat.Sy
open Go Go.RowKit
set_option linter.unusedVariables false
set_option linter.unusedSimpArgs false
set_option maxRecDepth 10000
set_option maxHeartbeats 16000000
theorem decQ_bds (s : ByteArray) : isI64 (decQ s).1 ∧ (decQ s).2.1.length ≤ 1000 ∧ (decQ s).2.2.1.length ≤ 1000 := by
  unfold decQ
  split
  · exact ⟨takeN_i64 _ _ _, takeL_len _ _ _, takeL_len _ _ _⟩
  · exact ⟨⟨by simp, by simp⟩, by simp, by simp⟩
theorem readA_bds (s : ByteArray) : isI64 (readA s).k ∧ isI64 (readA s).st ∧ isI64 (readA s).m ∧ isI64 (readA s).r ∧ (readA s).cs.length ≤ 1000 := by
  unfold readA
  split
  · exact ⟨takeN_i64 _ _ _, takeN_i64 _ _ _, takeN_i64 _ _ _, takeN_i64 _ _ _, takeL_len _ _ _⟩
  · exact ⟨⟨by simp, by simp⟩, ⟨by simp, by simp⟩, ⟨by simp, by simp⟩, ⟨by simp, by simp⟩, by simp⟩
theorem decQ_long {s : ByteArray} (h : 65536 < s.size) : (decQ s).2.2.2 = 2 := by
  have n0 : newE s = 2 := if_pos h
  have a1 : decN s = (0, 0, 2) := by unfold decN takeN; rw [n0, if_neg (by omega)]
  have a2 : decL s = ([], 0, 2) := by unfold decL takeL; rw [a1, if_neg (by simp)]
  have a3 : decC s = ([], 0, 2) := by unfold decC takeL; rw [a2, if_neg (by simp)]
  have a4 : decE s = 2 := by unfold decE endE; rw [a3, if_neg (by simp)]
  unfold decQ
  rw [a4, if_neg (by omega)]
theorem readA_long {s : ByteArray} (h : 65536 < s.size) : (readA s).e = 2 := by
  have n0 : newE s = 2 := if_pos h
  have a1 : rdE s = (0, 0, 2) := by unfold rdE takeN; rw [n0, if_neg (by omega)]
  have a2 : rdS s = (0, 0, 2) := by unfold rdS takeN; rw [a1, if_neg (by simp)]
  have a3 : rdC s = ([], 0, 2) := by unfold rdC takeL; rw [a2, if_neg (by simp)]
  have a4 : rdM s = (0, 0, 2) := by unfold rdM takeN; rw [a3, if_neg (by simp)]
  have a5 : rdR s = (0, 0, 2) := by unfold rdR takeN; rw [a4, if_neg (by simp)]
  have a6 : rdX s = 2 := by unfold rdX endE; rw [a5, if_neg (by simp)]
  unfold readA
  rw [a6, if_neg (by omega)]
abbrev arrO3 (a b c : Int) : Ob := ⟨23, 3, [[.val (.int .i64 a), .val (.int .i64 b), .val (.int .i64 c)]], .cells⟩
abbrev rowQ (q : ReqV) : List PV := [.val (.int .i64 q.k), .rd 1 (strs q.ls), .rd 1 (strs q.cs)]
abbrev rowR (a : RspV) : List PV := [.val (.int .i64 a.k), .val (.int .i64 a.st), .rd 1 (strs a.cs), .val (.int .i64 a.m), .val (.int .i64 a.r)]
def rowsQ (l : List ReqV) : List (List PV) := l.map rowQ
def rowsR (l : List RspV) : List (List PV) := l.map rowR
@[simp] theorem rowsQ_length (l : List ReqV) : (rowsQ l).length = l.length := by simp [rowsQ]
@[simp] theorem rowsR_length (l : List RspV) : (rowsR l).length = l.length := by simp [rowsR]
@[simp] theorem rowsQ_get {l : List ReqV} {i : Nat} (h : i < (rowsQ l).length) : (rowsQ l)[i] = rowQ (l[i]'(by simpa using h)) := by simp [rowsQ]
@[simp] theorem rowsR_get {l : List RspV} {i : Nat} (h : i < (rowsR l).length) : (rowsR l)[i] = rowR (l[i]'(by simpa using h)) := by simp [rowsR]
structure TellW where
  kind : Int
  raw : List Int
  a : Int
  b : Int
  c : Int
  q : ReqV
  r : RspV
  any : ByteArray
  at' : Int
def tw_one (t : TellW) (st : St) : Prop :=
  st = ⟨249, [(15, .val (.bool true)), (11, .ref 80 5 0 0), (10, .ref 72 3 0 0), (9, .ref 64 3 0 0), (6, .val (.int .i64 t.at')), (5, .val (.string t.any)), (1, .rd 1 (rowsJ t.raw)), (0, .val (.int .i64 t.kind))],
    [(64, arrO3 t.a t.b t.c), (72, ⟨26, 3, [rowQ t.q], .cells⟩), (80, ⟨28, 5, [rowR t.r], .cells⟩)], 88⟩
def tw_two (t : TellW) (st : St) : Prop :=
  st = ⟨249, [(15, .val (.bool true)), (11, .ref 72 5 0 0), (9, .ref 64 3 0 0), (6, .val (.int .i64 t.at')), (5, .val (.string t.any)), (1, .rd 1 (rowsJ t.raw)), (0, .val (.int .i64 t.kind))],
    [(64, arrO3 t.a t.b t.c), (72, ⟨28, 5, [rowR t.r], .cells⟩)], 80⟩
def tw_three (t : TellW) (st : St) : Prop :=
  st = ⟨249, [(15, .val (.bool true)), (9, .ref 64 3 0 0), (6, .val (.int .i64 t.at')), (5, .val (.string t.any)), (1, .rd 1 (rowsJ t.raw)), (0, .val (.int .i64 t.kind))], [(64, arrO3 t.a t.b t.c)], 72⟩
def tw_four (t : TellW) (st : St) : Prop := st = ⟨249, [(15, .val (.bool true))], [], 64⟩
def tw_lq (t : TellW) (l : List ReqV) (m : Nat) (st : St) : Prop := ∃ i : Nat, m = l.length - i ∧ i ≤ l.length ∧
  st = ⟨249, [(74, .val (.int .i64 i)), (73, .val (.int .i64 l.length)), (72, .rd 3 (rowsQ l)), (15, .val (.bool true)), (11, .ref 72 5 0 0), (9, .ref 64 3 0 0), (6, .val (.int .i64 t.at')), (5, .val (.string t.any)), (1, .rd 1 (rowsJ t.raw)), (0, .val (.int .i64 t.kind))],
    [(64, arrO3 t.a t.b t.c), (72, ⟨28, 5, [rowR t.r], .cells⟩)], 80⟩
def tw_lr (t : TellW) (l : List RspV) (m : Nat) (st : St) : Prop := ∃ i : Nat, m = l.length - i ∧ i ≤ l.length ∧
  st = ⟨249, [(104, .val (.int .i64 i)), (103, .val (.int .i64 l.length)), (102, .rd 5 (rowsR l)), (15, .val (.bool true)), (9, .ref 64 3 0 0), (6, .val (.int .i64 t.at')), (5, .val (.string t.any)), (1, .rd 1 (rowsJ t.raw)), (0, .val (.int .i64 t.kind))],
    [(64, arrO3 t.a t.b t.c)], 72⟩
def tw_out (t : TellW) (X : List ByteArray) (m : ByteArray) (n : Nat) (st : St) : Prop := ∃ i : Nat, n = X.length - i ∧ i ≤ X.length ∧
  st = ⟨249, [(151, .val (.int .i64 i)), (150, .val (.int .i64 X.length)), (149, .rd 1 (strs X)), (32, .val (.string m)), (15, .val (.bool true)), (6, .val (.int .i64 t.at'))], [], 64⟩
def tw_in (t : TellW) (X Y : List ByteArray) (m : ByteArray) (i : Nat) (n : Nat) (st : St) : Prop := ∃ j : Nat, n = Y.length - j ∧ j ≤ Y.length ∧
  st = ⟨249, [(182, .val (.int .i64 j)), (181, .val (.int .i64 Y.length)), (180, .rd 1 (strs Y)), (151, .val (.int .i64 i)), (150, .val (.int .i64 X.length)), (149, .rd 1 (strs X)), (32, .val (.string m)), (15, .val (.bool true)), (6, .val (.int .i64 t.at'))], [], 64⟩
def TellW.ok (t : TellW) : Prop := isI64 t.kind ∧ (t.raw.length ≤ maxLen ∧ ∀ n ∈ t.raw, isI64 n) ∧ (isI64 t.a ∧ isI64 t.b ∧ isI64 t.c) ∧ t.q.ok ∧ t.r.ok ∧ t.any.size ≤ maxLen ∧ isI64 t.at'
theorem wtells_call (t : TellW) (ht : t.ok) :
    CallOk Tryz.prog 3 [.val (.int .i64 t.kind), .rd 1 (rowsJ t.raw), arr3 t.a t.b t.c, .agg (rowQ t.q), .agg (rowR t.r), .val (.string t.any), .val (.int .i64 t.at')] [] (.val (.bool true)) [] := by
  refine .of_run Tryz.func3 rfl (enters_3) rfl rfl (Nat.le_of_ble_eq_true rfl) (fun n _ => rfl) ?_
  obtain ⟨hk, ⟨hl, hr⟩, ⟨ha, hb, hc⟩, hq, hrs, hany, hat⟩ := ht
  have r1 := req_right t.kind t.raw
  have q1 := request_call hk hl hr
  have r2 := rsp_may t.kind t.a t.b t.c t.raw
  have q2 := response_call hk ha hb hc hl hr
  have m1 : 1 ≤ maxLen := by decide
  have m2 : 2 ≤ maxLen := by decide
  have m5 : 5 ≤ maxLen := by decide
  refine WPg.cutW [0, 1, 2] (fun st => (t.q.ls.length ≤ 20 ∧ t.q.cs.length ≤ 20 ∧ t.r.cs.length ≤ 20) ∧ tw_one t st) ?_ ?_
  · simp
    refine .plain awake11_call (by simp) (by simp) ?_
    by_cases c1 : t.q.ls.length ≤ 20 ∧ t.q.cs.length ≤ 20 ∧ t.r.cs.length ≤ 20
    · have d1 : ¬ 20 < (t.q.ls.length : Int) := by omega
      have d2 : ¬ 20 < (t.q.cs.length : Int) := by omega
      have d3 : ¬ 20 < (t.r.cs.length : Int) := by omega
      simp [d1, d2, d3]
      refine ⟨_, ?_, c1, rfl⟩
      exact Wk.rn [(64, 64), (72, 72), (80, 80)] rfl (by simp) (by simp) (by simp)
    · have d : 20 < (t.q.ls.length : Int) ∨ (¬ 20 < (t.q.ls.length : Int) ∧ 20 < (t.q.cs.length : Int)) ∨ (¬ 20 < (t.q.ls.length : Int) ∧ ¬ 20 < (t.q.cs.length : Int) ∧ 20 < (t.r.cs.length : Int)) := by omega
      rcases d with d | ⟨d, d'⟩ | ⟨d, d', d''⟩
      · simp [d]
        exact .plain (by simp) (by simp)
      · simp [d, d']
        exact .plain (by simp) (by simp)
      · simp [d, d', d'']
        exact .plain (by simp) (by simp)
  rintro st ⟨⟨b1, b2, b3⟩, rfl⟩
  dsimp only [tailC]
  refine WPg.cutW [3] (tw_two t) ?_ ?_
  · have hqk : isI64 (reqK t.kind) := by unfold reqK; have := pickI_range (c := t.kind) (n := 4) (by omega); exact ⟨by omega, by omega⟩
    obtain ⟨f1, f2, _⟩ := right_facts r1
    obtain ⟨l, hl⟩ : ∃ l : List ReqV, l = [⟨reqK t.kind, reqL t.kind t.raw, reqC t.kind t.raw⟩, t.q] := ⟨_, rfl⟩
    have hll : l.length = 2 := by rw [hl]; rfl
    have hlm : ∀ x ∈ l, isI64 x.k ∧ x.ls.length ≤ 4294967296 ∧ x.cs.length ≤ 4294967296 := by
      intro x hx
      rw [hl] at hx
      simp only [List.mem_cons, List.not_mem_nil, or_false] at hx
      rcases hx with rfl | rfl
      · exact ⟨hqk, by simp only; omega, by simp only; omega⟩
      · exact ⟨hq.1, by omega, by omega⟩
    simp
    refine callT.plain q1 (by simp) (by simp) ?_
    simp [m2]
    refine ⟨rfl, ?_⟩
    refine WPg.loopW (tw_lq t l) ⟨l.length, _, ?_, ⟨0, by simp, by simp, rfl⟩⟩ ?_
    · refine Wk.trans (Wk.frz [120] (st' := ⟨249, [(74, .val (.int .i64 0)), (73, .val (.int .i64 2)), (72, .rd 3 (rowsQ l)), (15, .val (.bool true)), (11, .ref 80 5 0 0), (9, .ref 64 3 0 0), (6, .val (.int .i64 t.at')), (5, .val (.string t.any)), (1, .rd 1 (rowsJ t.raw)), (0, .val (.int .i64 t.kind))],
        [(64, arrO3 t.a t.b t.c), (80, ⟨28, 5, [rowR t.r], .cells⟩)], _⟩) rfl rfl (by simp) (by simp [hl, rowsQ]) (by simp)) ?_
      exact Wk.rn [(64, 64), (80, 72)] rfl (by simp) (by simp [hll]) (by simp)
    rintro m st ⟨i, h1, h2, rfl⟩
    by_cases hi : i < l.length
    · have hi' : (i : Int) < l.length := by omega
      have hw : IntKind.i64.wrap ((i : Int) + 1) = ((i + 1 : Nat) : Int) := by rw [w64 (by omega) (by omega)]; omega
      have hx := hlm _ (List.getElem_mem hi)
      obtain ⟨x, he⟩ : ∃ x, l[i] = x := ⟨_, rfl⟩
      rw [he] at hx
      simp [hi, hi', he]
      refine .plain (Encode_call hx.1 hx.2.1 hx.2.2) (by simp) (by simp) ?_
      simp
      refine .plain (refEncode_call hx.1 hx.2.1 hx.2.2) (by simp) (by simp) ?_
      simp
      refine ⟨l.length - (i + 1), by omega, _, ?_, ⟨i + 1, rfl, by omega, rfl⟩⟩
      rw [hw]
      exact Wk.rn [(64, 64), (72, 72)] rfl (by simp) (by simp) (by simp)
    · obtain rfl : i = l.length := by omega
      simp
      refine ⟨_, ?_, rfl⟩
      exact Wk.rn [(64, 64), (72, 72)] rfl (by simp) (by simp) (by simp)
  rintro st rfl
  dsimp only [tailC]
  refine WPg.cutW [4] (tw_three t) ?_ ?_
  · obtain ⟨g1, g2, _, _, _, _, g3, g4, g5, g6, g7, g8, g9, g10⟩ := may_facts r2
    obtain ⟨l, hl⟩ : ∃ l : List RspV, l = [⟨pickI t.kind 5, rspS (pickI t.kind 5) t.a, rspC (pickI t.kind 5) t.raw, rspM (pickI t.kind 5) t.b, rspR (pickI t.kind 5) t.c⟩, t.r] := ⟨_, rfl⟩
    have hll : l.length = 2 := by rw [hl]; rfl
    have hlm : ∀ x ∈ l, isI64 x.k ∧ isI64 x.st ∧ isI64 x.m ∧ isI64 x.r ∧ x.cs.length ≤ 4294967296 := by
      intro x hx
      rw [hl] at hx
      simp only [List.mem_cons, List.not_mem_nil, or_false] at hx
      rcases hx with rfl | rfl
      · exact ⟨⟨by simp only; omega, by simp only; omega⟩, ⟨by simp only; omega, by simp only; omega⟩, ⟨by simp only; omega, by simp only; omega⟩, ⟨by simp only; omega, by simp only; omega⟩, by simp only; omega⟩
      · exact ⟨hrs.1, hrs.2.1, hrs.2.2.2.1, hrs.2.2.2.2, by omega⟩
    simp
    refine callT.plain q2 (by simp) (by simp) ?_
    simp [m2]
    refine ⟨rfl, ?_⟩
    refine WPg.loopW (tw_lr t l) ⟨l.length, _, ?_, ⟨0, by simp, by simp, rfl⟩⟩ ?_
    · refine Wk.trans (Wk.frz [120] (st' := ⟨249, [(104, .val (.int .i64 0)), (103, .val (.int .i64 2)), (102, .rd 5 (rowsR l)), (15, .val (.bool true)), (9, .ref 64 3 0 0), (6, .val (.int .i64 t.at')), (5, .val (.string t.any)), (1, .rd 1 (rowsJ t.raw)), (0, .val (.int .i64 t.kind))],
        [(64, arrO3 t.a t.b t.c)], _⟩) rfl rfl (by simp) (by simp [hl, rowsR]) (by simp)) ?_
      exact Wk.rn [(64, 64)] rfl (by simp) (by simp [hll]) (by simp)
    rintro m st ⟨i, h1, h2, rfl⟩
    by_cases hi : i < l.length
    · have hi' : (i : Int) < l.length := by omega
      have hw : IntKind.i64.wrap ((i : Int) + 1) = ((i + 1 : Nat) : Int) := by rw [w64 (by omega) (by omega)]; omega
      have hx := hlm _ (List.getElem_mem hi)
      obtain ⟨x, he⟩ : ∃ x, l[i] = x := ⟨_, rfl⟩
      rw [he] at hx
      obtain ⟨x1, x2, x3, x4, x5⟩ := hx
      simp [hi, hi', he]
      refine .plain (Answer_call x1 x2 x3 x4 x5) (by simp) (by simp) ?_
      simp
      refine .plain (refAnswer_call x1 x2 x3 x4 x5) (by simp) (by simp) ?_
      simp
      refine ⟨l.length - (i + 1), by omega, _, ?_, ⟨i + 1, rfl, by omega, rfl⟩⟩
      rw [hw]
      exact Wk.rn [(64, 64)] rfl (by simp) (by simp) (by simp)
    · obtain rfl : i = l.length := by omega
      simp
      refine ⟨_, ?_, rfl⟩
      exact Wk.rn [(64, 64)] rfl (by simp) (by simp) (by simp)
  rintro st rfl
  dsimp only [tailC]
  refine WPg.cutW [5, 6, 7, 8] (tw_four t) ?_ ?_
  · obtain ⟨f1, f2, f3, f4, f5, f6, f7, _⟩ := right_facts r1
    obtain ⟨g1, g2, _, _, _, _, g3, g4, g5, g6, g7, g8, g9, g10⟩ := may_facts r2
    have hz := encQ_size r1
    have hz' := ansA_size r2
    have l2 := rsp_len (pickI t.kind 5) t.raw
    have hz2 := textsB_le (n := 40) (l := rspC (pickI t.kind 5) t.raw) fun x hx => by rcases g6 x hx with e | e <;> omega
    have c1 := refEncode_call (k := reqK t.kind) (ls := reqL t.kind t.raw) (cs := reqC t.kind t.raw) ⟨by omega, by omega⟩ (by omega) (by omega)
    have c2 := refAnswer_call (k := pickI t.kind 5) (st := rspS (pickI t.kind 5) t.a) (cs := rspC (pickI t.kind 5) t.raw) (m := rspM (pickI t.kind 5) t.b) (r := rspR (pickI t.kind 5) t.c) ⟨by omega, by omega⟩ ⟨by omega, by omega⟩ ⟨by omega, by omega⟩ ⟨by omega, by omega⟩ (by omega)
    generalize pickI t.kind 5 = k' at *
    generalize rspS k' t.a = st' at *
    generalize rspC k' t.raw = cs' at *
    generalize rspM k' t.b = m' at *
    generalize rspR k' t.c = r' at *
    generalize reqK t.kind = k at *
    generalize reqL t.kind t.raw = ls at *
    generalize reqC t.kind t.raw = cs at *
    generalize encQ k ls cs = s at *
    generalize ansA k' st' cs' m' r' = u at *
    have u1 : (0 : Int) ≤ (if 500 < (t.any.size : Int) then 500 else (t.any.size : Int)) ∧ (if 500 < (t.any.size : Int) then 500 else (t.any.size : Int)) ≤ (t.any.size : Int) := by split <;> omega
    obtain ⟨any', hany'⟩ : ∃ z, t.any.extract 0 (if 500 < (t.any.size : Int) then 500 else (t.any.size : Int)).toNat = z := ⟨_, rfl⟩
    have hm5 : any'.size ≤ 500 := by rw [← hany', ByteArray.size_extract]; split <;> omega
    simp
    refine .plain q1 (by simp) (by simp) ?_
    simp
    refine .plain c1 (by simp) (by simp) ?_
    simp
    refine .plain q2 (by simp) (by simp) ?_
    simp
    refine .plain c2 (by simp) (by simp) ?_
    simp [u1, hany', m2]
    obtain ⟨X, hX⟩ : ∃ X : List ByteArray, X = [s.1, u.1] := ⟨_, rfl⟩
    have hXl : X.length = 2 := by rw [hX]; rfl
    have hXs : ∀ x ∈ X, x.size ≤ 20000 := by
      intro x hx
      rw [hX] at hx
      simp only [List.mem_cons, List.not_mem_nil, or_false] at hx
      rcases hx with rfl | rfl <;> omega
    refine WPg.loopW (tw_out t X any') ⟨X.length, _, ?_, ⟨0, by simp, by simp, rfl⟩⟩ ?_
    · refine Wk.trans (Wk.frz [288] (st' := ⟨249, [(151, .val (.int .i64 0)), (150, .val (.int .i64 2)), (149, .rd 1 (strs X)), (32, .val (.string any')), (15, .val (.bool true)), (6, .val (.int .i64 t.at'))], [], _⟩) rfl rfl (by simp) (by simp [hX, rowsV]) (by simp)) ?_
      exact Wk.rn [] rfl (by simp) (by simp [hXl]) (by simp)
    rintro n st ⟨i, h1, h2, rfl⟩
    by_cases hi : i < X.length
    · have hi' : (i : Int) < X.length := by omega
      have hw : IntKind.i64.wrap ((i : Int) + 1) = ((i + 1 : Nat) : Int) := by rw [w64 (by omega) (by omega)]; omega
      obtain ⟨x, hx⟩ : ∃ x, X[i] = x := ⟨_, rfl⟩
      have hxs := hXs x (by rw [← hx]; exact List.getElem_mem _)
      have w1 : IntKind.i64.wrap ((x.size : Int) + 1) = x.size + 1 := w64 (by omega) (by omega)
      have hpx := pickI_range (c := t.at') (n := (x.size : Int) + 1) (by omega)
      have hpk := pick11_call (c := t.at') (n := (x.size : Int) + 1) hat (by omega)
      simp [hi', hi, hx, w1]
      refine .plain hpk (by simp) (by simp) ?_
      generalize pickI t.at' ((x.size : Int) + 1) = j at *
      obtain ⟨l, hl'⟩ : ∃ l : Int, (if 9 < (any'.size : Int) then 9 else (any'.size : Int)) = l := ⟨_, rfl⟩
      have u2 : 0 ≤ l ∧ l ≤ (any'.size : Int) := by rw [← hl']; split <;> omega
      have u3 : j ≤ (x.size : Int) := by omega
      have v1 : j.toNat + l.toNat ≤ 9223372036854775807 := by omega
      have v2 : j.toNat + l.toNat + (x.size - j.toNat) ≤ 9223372036854775807 := by omega
      have v3 : x.size + (⟨#[0]⟩ : ByteArray).size ≤ 9223372036854775807 := by have : (⟨#[0]⟩ : ByteArray).size = 1 := rfl; omega
      simp [hpx, hl', u2, u3, m5]
      refine ⟨v1, fun _ => ⟨v2, fun _ => ⟨v3, fun _ => ⟨rfl, ?_⟩⟩⟩⟩
      obtain ⟨Y, hY⟩ : ∃ Y : List ByteArray, Y = [x, x.extract 0 j.toNat, x.extract 0 j.toNat ++ any'.extract 0 l.toNat ++ x.extract j.toNat x.size, x ++ ⟨#[0]⟩, any'] := ⟨_, rfl⟩
      have hYl : Y.length = 5 := by rw [hY]; rfl
      refine WPg.loopW (tw_in t X Y any' i) ⟨Y.length, _, ?_, ⟨0, by simp, by simp, rfl⟩⟩ ?_
      · refine Wk.trans (Wk.frz [304] (st' := ⟨249, [(182, .val (.int .i64 0)), (181, .val (.int .i64 5)), (180, .rd 1 (strs Y)), (151, .val (.int .i64 i)), (150, .val (.int .i64 X.length)), (149, .rd 1 (strs X)), (32, .val (.string any')), (15, .val (.bool true)), (6, .val (.int .i64 t.at'))], [], _⟩) rfl rfl (by simp) (by simp [hY, rowsV]) (by simp)) ?_
        exact Wk.rn [] rfl (by simp) (by simp [hYl]) (by simp)
      rintro n' st' ⟨p, p1, p2, rfl⟩
      by_cases hp : p < Y.length
      · have hp' : (p : Int) < Y.length := by omega
        have hwp : IntKind.i64.wrap ((p : Int) + 1) = ((p + 1 : Nat) : Int) := by rw [w64 (by omega) (by omega)]; omega
        obtain ⟨y, hy⟩ : ∃ y, Y[p] = y := ⟨_, rfl⟩
        obtain ⟨y1, y2, y3⟩ := decQ_bds y
        obtain ⟨y4, y5, y6, y7, y8⟩ := readA_bds y
        have s1 := same_call (k := (decQ y).1) (k' := (decQ y).1) (ls := (decQ y).2.1) (ls' := (decQ y).2.1) (cs := (decQ y).2.2.1) (cs' := (decQ y).2.2.1) (by omega) (by omega) (by omega) (by omega)
        have s2 := alike_call (k := (readA y).k) (k' := (readA y).k) (st := (readA y).st) (st' := (readA y).st) (m := (readA y).m) (m' := (readA y).m) (r := (readA y).r) (r' := (readA y).r) (cs := (readA y).cs) (cs' := (readA y).cs) (by omega) (by omega)
        simp only [and_self, decide_true] at s1 s2
        simp [hp', hp, hy]
        refine .plain (Decode_call y) (by simp) (by simp) ?_
        simp
        refine .plain (refDecode_call y) (by simp) (by simp) ?_
        simp
        refine .plain (Read_call y) (by simp) (by simp) ?_
        simp
        refine .plain (refRead_call y) (by simp) (by simp) ?_
        simp
        refine .plain s1 (by simp) (by simp) ?_
        simp
        refine .plain s2 (by simp) (by simp) ?_
        simp
        refine ⟨Y.length - (p + 1), by omega, _, ?_, ⟨p + 1, rfl, by omega, rfl⟩⟩
        rw [hwp]
        exact Wk.rn [] rfl (by simp) (by simp) (by simp)
      · obtain rfl : p = Y.length := by omega
        simp
        refine ⟨X.length - (i + 1), by omega, _, ?_, ⟨i + 1, rfl, by omega, rfl⟩⟩
        rw [hw]
        exact Wk.rn [] rfl (by simp) (by simp) (by simp)
    · obtain rfl : i = X.length := by omega
      simp
      refine ⟨_, ?_, rfl⟩
      exact Wk.rn [] rfl (by simp) (by simp) (by simp)
  rintro st rfl
  dsimp only [tailC]
  refine .run ?_
  obtain ⟨Z, hZ⟩ : ∃ Z, strOfNums (List.replicate 65537 0) = Z := ⟨_, rfl⟩
  have hZs : 65536 < Z.size := by rw [← hZ, strOfNums_size, List.length_replicate]; omega
  have d1 := Decode_call Z
  have d2 := Read_call Z
  rw [decQ_long hZs] at d1
  rw [readA_long hZs] at d2
  have m65 : 65537 ≤ maxLen := by decide
  simp [-List.reduceReplicate, numsOf_zero, hZ, m65]
  refine .plain d1 (by simp [-List.reduceReplicate]) (by simp [-List.reduceReplicate]) ?_
  simp [-List.reduceReplicate, numsOf_zero, hZ, m65]
  refine .plain d2 (by simp [-List.reduceReplicate]) (by simp [-List.reduceReplicate]) ?_
  simp [-List.reduceReplicate]
  exact .plain (by simp [-List.reduceReplicate]) (by simp [-List.reduceReplicate])
end Go.Proofs.YtidaedchmjlbfaaGreat.Sy
