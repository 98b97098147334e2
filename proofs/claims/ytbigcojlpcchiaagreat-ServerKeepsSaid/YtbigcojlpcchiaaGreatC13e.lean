/- Layer 13: the document's Do, and both Steps. -/
import Derived.Test.YtbigcojlpcchiaaGreatC13c
import Derived.Test.YtbigcojlpcchiaaGreatC13d
import Derived.Test.YtbigcojlpcchiaaGreatC11rd
import Derived.Test.YtbigcojlpcchiaaGreatC11k
namespace Go.Proofs.YtbigcojlpcchiaaGreat.Sy
open Go Go.RowKit
set_option linter.unusedVariables false
set_option linter.unusedSimpArgs false
set_option maxRecDepth 10000
set_option maxHeartbeats 4000000
open Bk (Sto rowsB stoP putS getS delS RightI inB)
def rdo_get (s : Sto) (lim : Int) (ls cs : List ByteArray) (m : Nat) (st : St) : Prop := ∃ i : Nat, m = ls.length - i ∧ i ≤ ls.length ∧
  ((i = 0 ∧ st = ⟨107, [(8, .val (.int .i64 i)), (7, .ref 104 5 0 0), (6, .ref 96 4 0 0), (5, .ref 88 5 0 0), (4, .ref 80 4 0 0), (3, .ref 72 3 0 0), (2, .ref 64 4 0 0)],
      [(64, srvO s lim), (72, reqC13 2 ls cs), (80, srv0), (88, rsp0 0 (.val (.slice none 0 0)) 0), (96, srvO s lim), (104, rsp0 2 (.val (.slice none 0 0)) 0)], 112⟩) ∨
   (0 < i ∧ st = ⟨107, [(8, .val (.int .i64 i)), (7, .ref 104 5 0 0), (6, .ref 96 4 0 0), (5, .ref 88 5 0 0), (4, .ref 80 4 0 0), (3, .ref 72 3 0 0), (2, .ref 64 4 0 0)],
      [(64, srvO s lim), (72, reqC13 2 ls cs), (80, srv0), (88, rsp0 0 (.val (.slice none 0 0)) 0), (96, srvO s lim), (104, rsp0 2 (.sl 112 1 0 i) 0), (112, ⟨9, 1, strs ((getsV s ls).take i), .cells⟩)], 120⟩))
def rdo_del (s : Sto) (lim : Int) (ls cs : List ByteArray) (m : Nat) (st : St) : Prop := ∃ (i : Nat) (Q : Sto) (c : Int), m = ls.length - i ∧ i ≤ ls.length ∧ RightI Q ∧ (0 ≤ c ∧ c ≤ i) ∧ delsV s ls 0 = delsV Q (ls.drop i) c ∧
  st = ⟨107, [(11, .val (.int .i64 i)), (7, .ref 104 5 0 0), (6, .ref 96 4 0 0), (5, .ref 88 5 0 0), (4, .ref 80 4 0 0), (3, .ref 72 3 0 0)],
      [(72, reqC13 3 ls cs), (80, srv0), (88, rsp0 0 (.val (.slice none 0 0)) 0), (96, srvO Q lim), (104, rsp0 3 (.val (.slice none 0 0)) c)], 112⟩
theorem refDo_call {s : Sto} {lim K : Int} {ls cs : List ByteArray} (hs : s.bs.length < 1000000) (hl : ls.length ≤ 4294967296) (hc : cs.length ≤ 4294967296) :
    CallOk Tryz.prog 19 [srvP s lim, reqP K ls cs] [] (.tup [srvP (doV s lim K ls cs).1 lim, (doV s lim K ls cs).2.P]) [] := by
  refine .of_exec Tryz.func19 rfl (enters_19) rfl rfl (Nat.le_of_ble_eq_true rfl) (fun n _ => rfl) ?_
  simp
  refine .plain (refsright_call hs) (by simp) (by simp) ?_
  cases hv : rightV s lim with
  | false =>
    have e : doV s lim K ls cs = (s, ⟨0, 0, [], 0, 0⟩) := if_neg (by rw [hv]; simp)
    simp
    refine .plain (refsown_call hs) (by simp) (by simp) ?_
    simp
    exact .wk _ (Wk.nilRdB 1 [88]) (by simp) (by simp [e, strs_nil])
  | true =>
    simp
    refine .plain (refRight_call hl hc) (by simp) (by simp) ?_
    cases hq : rightQ K ls cs with
    | false =>
      have e : doV s lim K ls cs = (s, ⟨0, 0, [], 0, 0⟩) := if_neg (by rw [hq]; simp)
      simp
      refine .plain (refsown_call hs) (by simp) (by simp) ?_
      simp
      exact .wk _ (Wk.nilRdB 1 [88]) (by simp) (by simp [e, strs_nil])
    | true =>
      have e : doV s lim K ls cs = if K = 1 then ((putV s lim ls cs).1, ⟨1, (putV s lim ls cs).2, [], 0, 0⟩) else if K = 2 then (s, ⟨2, 0, getsV s ls, 0, 0⟩) else if K = 3 then ((delsV s ls 0).1, ⟨3, 0, [], (delsV s ls 0).2, 0⟩) else (s, ⟨4, 0, [], s.many, lim - s.many⟩) := if_pos ⟨hq, hv⟩
      obtain ⟨f1, f2, f3, f4, f5, f6, f7, g1, _⟩ := right_facts hq
      obtain ⟨hr, l0, l1, l2⟩ := rightV_iff.1 hv
      have hsm := Bk.right_small hr
      have hK : K = 1 ∨ K = 2 ∨ K = 3 ∨ K = 4 := by omega
      simp
      refine .plain (refsown_call hs) (by simp) (by simp) ?_
      rcases hK with rfl | rfl | rfl | rfl
      · rw [if_pos rfl] at e
        simp
        refine .plain (rput_call hv hq rfl) (by simp) (by simp) ?_
        simp
        exact .plain (by simp) (by simp [e])
      · rw [if_neg (by omega), if_pos rfl] at e
        have m1 : 1 ≤ maxLen := by decide
        have hCl : (getsV s ls).length = ls.length := List.length_map _
        have hCg : ∀ (i : Nat) (h : i < ls.length) (h' : i < (getsV s ls).length), (getsV s ls)[i] = (getS s ls[i]).1 := fun i h h' => List.getElem_map _
        simp
        refine WPg.loopW (rdo_get s lim ls cs) ⟨ls.length, _, ?_, ⟨0, by simp, by simp, .inl ⟨rfl, rfl⟩⟩⟩ ?_
        · exact Wk.rn [(64, 64), (72, 72), (80, 80), (88, 88), (176, 96), (216, 104)] rfl (by simp) (by simp) (by simp)
        rintro m st ⟨i, h1, h2, h3⟩
        by_cases hi : i < ls.length
        · have hi' : (i : Int) < ls.length := by omega
          have hw : IntKind.i64.wrap ((i : Int) + 1) = ((i + 1 : Nat) : Int) := by rw [w64 (by omega) (by omega)]; omega
          obtain ⟨x, hx⟩ : ∃ x, ls[i] = x := ⟨_, rfl⟩
          have htk : (getsV s ls).take (i + 1) = (getsV s ls).take i ++ [(getS s x).1] := by rw [List.take_add_one, List.getElem?_eq_getElem (by omega), hCg i hi (by omega), hx]; rfl
          have ht2 : ((getsV s ls).take i).take i = (getsV s ls).take i := by rw [List.take_take, Nat.min_self]
          have hmin : min i (getsV s ls).length = i := by omega
          have h16 : i ≤ 140737488355327 ∧ (i + 1) * 16 ≤ 140737488355328 := by omega
          have hg := Bk.refget_call s x hs
          generalize getS s x = G at *
          obtain ⟨y, b⟩ := G
          simp only at htk hg
          rcases h3 with ⟨h4, rfl⟩ | ⟨h4, rfl⟩
          · simp [hi, hi', hx]
            refine callT.plain hg (by simp) (by simp) ?_
            simp [m1]
            refine ⟨rfl, ls.length - 1, by omega, _, ?_, ⟨1, by omega, by omega, .inr ⟨by omega, rfl⟩⟩⟩
            rw [hw]
            subst h4
            have hs1 : strs ((getsV s ls).take 1) = [[.val (.string y)]] := by rw [htk]; rfl
            exact Wk.rn [(64, 64), (72, 72), (80, 80), (88, 88), (96, 96), (104, 104), (288, 112)] rfl (by simp) (by simp) (by simp [hs1])
          · simp [hi, hi', hx]
            refine callT.plain hg (by simp) (by simp) ?_
            simp [m1, hmin, h16]
            refine ⟨rfl, ls.length - (i + 1), by omega, _, ?_, ⟨i + 1, by omega, by omega, .inr ⟨by omega, rfl⟩⟩⟩
            rw [hw]
            exact Wk.rn [(64, 64), (72, 72), (80, 80), (88, 88), (96, 96), (104, 104), (296, 112)] rfl (by simp) (by simp) (by simp [htk, ht2])
        · obtain rfl : i = ls.length := by omega
          rcases h3 with ⟨h4, rfl⟩ | ⟨h4, rfl⟩
          · have hn : getsV s ls = [] := List.eq_nil_of_length_eq_zero (by omega)
            simp
            exact ⟨rfl, .wk _ (Wk.nilRdB 1 [88]) (by simp) (by simp [e, hn, strs_nil])⟩
          · have ht3 : (getsV s ls).take ls.length = getsV s ls := List.take_of_length_le (by omega)
            simp
            refine ⟨rfl, .wk _ (Wk.frz [112] (st' := ⟨107, [(4, .ref 80 4 0 0), (5, .ref 88 5 0 0)], [(80, srvO s lim), (88, rsp0 2 (.rd 1 (strs (getsV s ls))) 0)], _⟩) rfl rfl (by simp) (by simp) (by simp [ht3, hCl])) (by simp) (by simp [e])⟩
      · rw [if_neg (by omega), if_neg (by omega), if_pos rfl] at e
        simp
        refine WPg.loopW (rdo_del s lim ls cs) ⟨ls.length, _, ?_, ⟨0, s, 0, by simp, by simp, hr, by simp, by simp, rfl⟩⟩ ?_
        · exact Wk.rn [(72, 72), (80, 80), (88, 88), (176, 96), (216, 104)] rfl (by simp) (by simp) (by simp)
        rintro m st ⟨i, Q, c, h1, h2, h3, h4, h5, rfl⟩
        have hPs := rightI_small h3
        by_cases hi : i < ls.length
        · have hi' : (i : Int) < ls.length := by omega
          have hw : IntKind.i64.wrap ((i : Int) + 1) = ((i + 1 : Nat) : Int) := by rw [w64 (by omega) (by omega)]; omega
          have hwc : IntKind.i64.wrap (c + 1) = c + 1 := w64 (by omega) (by omega)
          obtain ⟨x, hx⟩ : ∃ x, ls[i] = x := ⟨_, rfl⟩
          rw [List.drop_eq_getElem_cons hi, hx, delsV] at h5
          have hd := Bk.refdel_call Q x hPs
          have hP' := dels_one h3 x
          generalize delS Q x = D at *
          obtain ⟨Q', b, e'⟩ := D
          simp only at h5 hd hP'
          simp [hi, hi', hx]
          refine callT.plain hd (by simp) (by simp) ?_
          cases b with
          | true =>
            simp [hwc]
            refine ⟨rfl, ls.length - (i + 1), by omega, _, ?_, ⟨i + 1, Q', c + 1, rfl, by omega, hP', by omega, by simpa using h5, rfl⟩⟩
            rw [hw]
            exact Wk.rn [(72, 72), (80, 80), (88, 88), (96, 96), (104, 104)] rfl (by simp) (by simp) (by simp)
          | false =>
            simp
            refine ⟨rfl, ls.length - (i + 1), by omega, _, ?_, ⟨i + 1, Q', c, rfl, by omega, hP', by omega, by simpa using h5, rfl⟩⟩
            rw [hw]
            exact Wk.rn [(72, 72), (80, 80), (88, 88), (96, 96), (104, 104)] rfl (by simp) (by simp) (by simp)
        · obtain rfl : i = ls.length := by omega
          rw [List.drop_length, delsV] at h5
          rw [h5] at e
          simp
          exact ⟨rfl, .wk _ (Wk.nilRdB 1 [88]) (by simp) (by simp [e, strs_nil])⟩
      · rw [if_neg (by omega), if_neg (by omega), if_neg (by omega)] at e
        have w1 : IntKind.i64.wrap (lim - s.many) = lim - s.many := w64 (by omega) (by omega)
        simp [w1]
        exact ⟨rfl, .wk _ (Wk.nilRdB 1 [88]) (by simp) (by simp [e, strs_nil])⟩
def stepV (s : Sto) (lim : Int) (q : ByteArray) : Sto × ByteArray :=
  if (decQ q).2.2.2 = 0 then ((doV s lim (decQ q).1 (decQ q).2.1 (decQ q).2.2.1).1, (ansA (doV s lim (decQ q).1 (decQ q).2.1 (decQ q).2.2.1).2.k (doV s lim (decQ q).1 (decQ q).2.1 (decQ q).2.2.1).2.st (doV s lim (decQ q).1 (decQ q).2.1 (decQ q).2.2.1).2.cs (doV s lim (decQ q).1 (decQ q).2.1 (decQ q).2.2.1).2.m (doV s lim (decQ q).1 (decQ q).2.1 (decQ q).2.2.1).2.r).1)
  else (s, (ansA 0 0 [] 0 0).1)
theorem CallTo.weak13 {P : Program} {f : FuncId} {args args' : List PV} {pre post : List (Nat × Ob)} {r : PV} (h : CallOk P f args pre r post) (hw : ∀ C vs, ReL C args' vs → ReL C args vs) : CallOk P f args' pre r post :=
  ⟨h.1, fun C vs ha hob hs hm => h.2 C vs (hw C vs ha) hob hs hm⟩
theorem Step_call {s : Sto} {lim : Int} (q : ByteArray) (hs : s.bs.length < 1000000) : CallOk Tryz.prog 22 [srvP s lim, .val (.string q)] [] (.tup [srvP (stepV s lim q).1 lim, .val (.string (stepV s lim q).2)]) [] := by
  refine .of_exec Tryz.func22 rfl (enters_22) rfl rfl (Nat.le_of_ble_eq_true rfl) (fun n _ => rfl) ?_
  have hd := Decode_call q
  have b1 := takeN_i64 q 0 (newE q)
  have e : stepV s lim q = if (decQ q).2.2.2 = 0 then ((doV s lim (decQ q).1 (decQ q).2.1 (decQ q).2.2.1).1, (ansA (doV s lim (decQ q).1 (decQ q).2.1 (decQ q).2.2.1).2.k (doV s lim (decQ q).1 (decQ q).2.1 (decQ q).2.2.1).2.st (doV s lim (decQ q).1 (decQ q).2.1 (decQ q).2.2.1).2.cs (doV s lim (decQ q).1 (decQ q).2.1 (decQ q).2.2.1).2.m (doV s lim (decQ q).1 (decQ q).2.1 (decQ q).2.2.1).2.r).1)
    else (s, (ansA 0 0 [] 0 0).1) := rfl
  have hr := fun h => (enc_dec (s := q) h).1
  generalize decQ q = D at *
  obtain ⟨dk, dl, dc, de⟩ := D
  simp only at hd e hr
  simp
  refine .plain hd (by simp) (by simp) ?_
  by_cases c : de = 0
  · rw [if_pos c] at e
    obtain ⟨f1, f2, _, _, _, f6, f7, _⟩ := right_facts (hr c)
    have hm := do_may s lim dk dl dc
    have hl := do_len s lim dk dl dc hs
    have hD := Do_call (s := s) (lim := lim) (K := dk) (ls := dl) (cs := dc) hs ⟨by omega, by omega⟩ (by omega) (by omega)
    generalize doV s lim dk dl dc = R at *
    obtain ⟨s', a⟩ := R
    simp only at hm hl hD e
    obtain ⟨g1, g2, _, _, _, _, g3, g4, g5, g6, g7, g8, g9, g10⟩ := may_facts hm
    simp [c]
    refine .plain hD (by simp) (by simp) ?_
    simp
    refine .plain (Answer_call (k := a.k) (st := a.st) (cs := a.cs) (m := a.m) (r := a.r) ⟨by omega, by omega⟩ ⟨by omega, by omega⟩ ⟨by omega, by omega⟩ ⟨by omega, by omega⟩ (by omega)) (by simp) (by simp) ?_
    simp
    refine .plain (sown_call hl) (by simp) (by simp) ?_
    simp
    exact .plain (by simp) (by simp [e])
  · rw [if_neg c] at e
    have hA := (Answer_call (k := 0) (st := 0) (cs := []) (m := 0) (r := 0) ⟨by omega, by omega⟩ ⟨by omega, by omega⟩ ⟨by omega, by omega⟩ ⟨by omega, by omega⟩ (by simp)).weak13 (args' := [.agg [.val (.int .i64 0), .val (.int .i64 0), .val (.slice none 0 0), .val (.int .i64 0), .val (.int .i64 0)]]) fun C vs h => by
      obtain ⟨v, rfl, hv⟩ := reL1 h
      exact .cons (hv.nilRd1 1) (.nil _)
    simp [c]
    refine .plain hA (by simp) (by simp) ?_
    simp
    refine .plain (sown_call hs) (by simp) (by simp) ?_
    simp
    exact .plain (by simp) (by simp [e])
theorem refStep_call {s : Sto} {lim : Int} (q : ByteArray) (hs : s.bs.length < 1000000) : CallOk Tryz.prog 23 [srvP s lim, .val (.string q)] [] (.tup [srvP (stepV s lim q).1 lim, .val (.string (stepV s lim q).2)]) [] := by
  refine .of_exec Tryz.func23 rfl (enters_23) rfl rfl (Nat.le_of_ble_eq_true rfl) (fun n _ => rfl) ?_
  have hd := refDecode_call q
  have e : stepV s lim q = if (decQ q).2.2.2 = 0 then ((doV s lim (decQ q).1 (decQ q).2.1 (decQ q).2.2.1).1, (ansA (doV s lim (decQ q).1 (decQ q).2.1 (decQ q).2.2.1).2.k (doV s lim (decQ q).1 (decQ q).2.1 (decQ q).2.2.1).2.st (doV s lim (decQ q).1 (decQ q).2.1 (decQ q).2.2.1).2.cs (doV s lim (decQ q).1 (decQ q).2.1 (decQ q).2.2.1).2.m (doV s lim (decQ q).1 (decQ q).2.1 (decQ q).2.2.1).2.r).1)
    else (s, (ansA 0 0 [] 0 0).1) := rfl
  have hr := fun h => (enc_dec (s := q) h).1
  generalize decQ q = D at *
  obtain ⟨dk, dl, dc, de⟩ := D
  simp only at hd e hr
  simp
  refine .plain hd (by simp) (by simp) ?_
  by_cases c : de = 0
  · rw [if_pos c] at e
    obtain ⟨f1, f2, _, _, _, f6, f7, _⟩ := right_facts (hr c)
    have hm := do_may s lim dk dl dc
    have hD := refDo_call (s := s) (lim := lim) (K := dk) (ls := dl) (cs := dc) hs (by omega) (by omega)
    generalize doV s lim dk dl dc = R at *
    obtain ⟨s', a⟩ := R
    simp only at hm hD e
    obtain ⟨g1, g2, _, _, _, _, g3, g4, g5, g6, g7, g8, g9, g10⟩ := may_facts hm
    simp [c]
    refine .plain hD (by simp) (by simp) ?_
    simp
    refine .plain (refAnswer_call (k := a.k) (st := a.st) (cs := a.cs) (m := a.m) (r := a.r) ⟨by omega, by omega⟩ ⟨by omega, by omega⟩ ⟨by omega, by omega⟩ ⟨by omega, by omega⟩ (by omega)) (by simp) (by simp) ?_
    simp
    exact .plain (by simp) (by simp [e])
  · rw [if_neg c] at e
    have hA := (refAnswer_call (k := 0) (st := 0) (cs := []) (m := 0) (r := 0) ⟨by omega, by omega⟩ ⟨by omega, by omega⟩ ⟨by omega, by omega⟩ ⟨by omega, by omega⟩ (by simp)).weak13 (args' := [.agg [.val (.int .i64 0), .val (.int .i64 0), .val (.slice none 0 0), .val (.int .i64 0), .val (.int .i64 0)]]) fun C vs h => by
      obtain ⟨v, rfl, hv⟩ := reL1 h
      exact .cons (hv.nilRd1 1) (.nil _)
    simp [c]
    refine .plain hA (by simp) (by simp) ?_
    simp
    refine .plain (refsown_call hs) (by simp) (by simp) ?_
    simp
    exact .plain (by simp) (by simp [e])
end Go.Proofs.YtbigcojlpcchiaaGreat.Sy
