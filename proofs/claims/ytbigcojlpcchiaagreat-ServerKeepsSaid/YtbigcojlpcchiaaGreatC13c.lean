/- Layer 13: Do, Step. -/
import Derived.Test.YtbigcojlpcchiaaGreatC13b
import Derived.Test.YtbigcojlpcchiaaGreatC11y
namespace Go.Proofs.YtbigcojlpcchiaaGreat.Sy
open Go Go.RowKit
set_option linter.unusedVariables false
set_option linter.unusedSimpArgs false
set_option maxRecDepth 10000
set_option maxHeartbeats 4000000
open Bk (Sto rowsB stoP putS getS delS RightI inB)
abbrev kindsO (p : PV) : Ob := ⟨0, 2, [[.val (.int .i64 1), .bnd 64 [p]], [.val (.int .i64 2), .bnd 65 [p]], [.val (.int .i64 3), .bnd 66 [p]], [.val (.int .i64 4), .bnd 67 [p]]], .map⟩
theorem kinds_call {s : Sto} {lim : Int} : CallOk Tryz.prog 36 [.ref 0 4 0 0] [(0, kprO s lim)] (.mp 1) [(0, kprO s lim), (1, kindsO (.ref 0 4 0 0))] := by
  refine .of_exec Tryz.func36 rfl (enters_36) rfl rfl (Nat.le_of_ble_eq_true rfl) pre1 ?_
  simp
  exact .own [(0, 0), (72, 1)] (by simp) (by simp) (by simp) (by simp) (by simp)
theorem Do_call {s : Sto} {lim K : Int} {ls cs : List ByteArray} (hs : s.bs.length < 1000000) (hk : isI64 K) (hl : ls.length ≤ 4294967296) (hc : cs.length ≤ 4294967296) :
    CallOk Tryz.prog 18 [srvP s lim, reqP K ls cs] [] (.tup [srvP (doV s lim K ls cs).1 lim, (doV s lim K ls cs).2.P]) [] := by
  refine .of_exec Tryz.func18 rfl (enters_18) rfl rfl (Nat.le_of_ble_eq_true rfl) (fun n _ => rfl) ?_
  simp
  refine .plain (sown_call hs) (by simp) (by simp) ?_
  simp
  refine .plain (Encode_call hk hl hc) (by simp) (by simp) ?_
  cases hq : rightQ K ls cs with
  | false =>
    have e1 : encQ K ls cs = (⟨#[]⟩, 1) := if_neg (by rw [hq]; simp)
    have e : doV s lim K ls cs = (s, ⟨0, 0, [], 0, 0⟩) := if_neg (by rw [hq]; simp)
    simp [e1]
    exact .wk _ (Wk.nilRdB 1 [88]) (by simp) (by simp [e, strs_nil])
  | true =>
    have e1 : (encQ K ls cs).2 = 0 := by rw [encQ_ok hq]
    simp [e1]
    refine .plain (sright_call hs) (by simp) (by simp) ?_
    cases hv : rightV s lim with
    | false =>
      have e : doV s lim K ls cs = (s, ⟨0, 0, [], 0, 0⟩) := if_neg (by rw [hv]; simp)
      simp
      exact .wk _ (Wk.nilRdB 1 [88]) (by simp) (by simp [e, strs_nil])
    | true =>
      have e : doV s lim K ls cs = if K = 1 then ((putV s lim ls cs).1, ⟨1, (putV s lim ls cs).2, [], 0, 0⟩) else if K = 2 then (s, ⟨2, 0, getsV s ls, 0, 0⟩) else if K = 3 then ((delsV s ls 0).1, ⟨3, 0, [], (delsV s ls 0).2, 0⟩) else (s, ⟨4, 0, [], s.many, lim - s.many⟩) := if_pos ⟨hq, hv⟩
      obtain ⟨f1, f2, f3, f4, f5, f6, f7, g1, _⟩ := right_facts hq
      have hK : K = 1 ∨ K = 2 ∨ K = 3 ∨ K = 4 := by omega
      simp
      refine callT.own [] [(120, 0)] (kinds_call (s := s) (lim := lim)) (by simp) (by simp) (by simp) (by simp) (by simp) (by simp) (by simp) (by simp) (by simp) (by simp) ?_
      rcases hK with rfl | rfl | rfl | rfl
      · simp
        refine callT.own [] [(120, 0)] (kput_call hv hq rfl) (by simp) (by simp) (by simp) (by simp) (by simp) (by simp) (by simp) (by simp) (by simp) (by simp) ?_
        simp
        refine ⟨rfl, rfl, ?_⟩
        exact .plain (by simp) (by simp [e])
      · simp
        refine callT.own [] [(120, 0)] (kget_call (K := 2) (cs := cs) hv f1) (by simp) (by simp) (by simp) (by simp) (by simp) (by simp) (by simp) (by simp) (by simp) (by simp) ?_
        simp
        refine ⟨rfl, rfl, ?_⟩
        exact .plain (by simp) (by simp [e])
      · simp
        refine callT.own [] [(120, 0)] (kdel_call (K := 3) (cs := cs) hv f5 f1) (by simp) (by simp) (by simp) (by simp) (by simp) (by simp) (by simp) (by simp) (by simp) (by simp) ?_
        simp
        refine ⟨rfl, rfl, ?_⟩
        exact .plain (by simp) (by simp [e])
      · simp
        refine callT.own [] [(120, 0)] (kstats_call (K := 4) (ls := ls) (cs := cs) hv) (by simp) (by simp) (by simp) (by simp) (by simp) (by simp) (by simp) (by simp) (by simp) (by simp) ?_
        simp
        refine ⟨rfl, rfl, ?_⟩
        exact .plain (by simp) (by simp [e])
end Go.Proofs.YtbigcojlpcchiaaGreat.Sy
