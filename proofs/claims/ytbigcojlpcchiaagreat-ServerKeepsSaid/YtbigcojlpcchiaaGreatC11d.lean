/- Layer 11: what is read of bytes: the reader. -/
import Derived.Test.YtbigcojlpcchiaaGreatC11e
namespace Go.Proofs.YtbigcojlpcchiaaGreat.Sy
open Go Go.RowKit
set_option linter.unusedVariables false
set_option linter.unusedSimpArgs false
set_option maxRecDepth 10000
set_option maxHeartbeats 4000000
theorem retR.wkOwn {P : Program} {res : List ResultVar} {r : PV} {pre post : List (Nat × Ob)} {e : Exit} {st : St} (st' : St) (hw : Wk 64 st st') (π : List (Nat × Nat)) (he : e = .normal ∨ e = .ret) (hπ : piOk π) (hp : outAll π st'.obs post) (hk : keepAll π pre)
    (h : resOf P st' res fun l => rn2 (fwdN π) (resV l) = r) : retR P res r pre post e st :=
  ⟨he, st', hw, resOf_mono (fun l hl => ⟨π, .own π hl hπ hp hk⟩) h⟩
abbrev rdrO (s : ByteArray) (a e : Int) : Ob := ⟨134, 3, [[.val (.string s), .val (.int .i64 a), .val (.int .i64 e)]], .cells⟩
def newE (s : ByteArray) : Int := if 65536 < s.size then 2 else 0
theorem newReader_call (s : ByteArray) : CallOk Tryz.prog 74 [.val (.string s)] [] (.ref 1 3 0 0) [(1, rdrO s 0 (newE s))] := by
  refine .of_exec Tryz.func74 rfl (enters_74) rfl rfl (Nat.le_of_ble_eq_true rfl) (fun n _ => rfl) ?_
  by_cases c : 65536 < s.size
  · have c' : 65536 < (s.size : Int) := by omega
    have e : newE s = 2 := if_pos c
    simp [c, c', e]
    exact .own [(96, 1)] (by simp) (by simp) (by simp) (by simp) (by simp)
  · have c' : ¬ 65536 < (s.size : Int) := by omega
    have e : newE s = 0 := if_neg c
    simp [c, c', e]
    exact .own [(96, 1)] (by simp) (by simp) (by simp) (by simp) (by simp)
def takeN (s : ByteArray) (a e : Int) : Int × Int × Int := if e = 0 then tNum s a else (0, a, e)
def takeL (s : ByteArray) (a e : Int) : List ByteArray × Int × Int := if e = 0 then tList s a else ([], a, e)
theorem takeN_call (s : ByteArray) (a e : Int) : CallOk Tryz.prog 75 [.ref 0 3 0 0, .clo 76 []] [(0, rdrO s a e)] (.val (.int .i64 (takeN s a e).1)) [(0, rdrO s (takeN s a e).2.1 (takeN s a e).2.2)] := by
  refine .of_exec Tryz.func75 rfl (enters_75) rfl rfl (Nat.le_of_ble_eq_true rfl) pre1 ?_
  by_cases c : e = 0
  · subst c
    have ht : takeN s a 0 = tNum s a := if_pos rfl
    simp [ht]
    refine .plain (TakeNumber_call s a) (by simp) (by simp) ?_
    simp
    exact .own [(0, 0)] (by simp) (by simp) (by simp) (by simp) (by simp)
  · have ht : takeN s a e = (0, a, e) := if_neg c
    simp [c, ht]
    exact .own [(0, 0)] (by simp) (by simp) (by simp) (by simp) (by simp)
theorem takeL_call (s : ByteArray) (a e : Int) : CallOk Tryz.prog 77 [.ref 0 3 0 0, .clo 78 []] [(0, rdrO s a e)] (.rd 1 (strs (takeL s a e).1)) [(0, rdrO s (takeL s a e).2.1 (takeL s a e).2.2)] := by
  refine .of_exec Tryz.func77 rfl (enters_77) rfl rfl (Nat.le_of_ble_eq_true rfl) pre1 ?_
  by_cases c : e = 0
  · subst c
    have ht : takeL s a 0 = tList s a := if_pos rfl
    simp [ht]
    refine .plain (TakeList_call s a) (by simp) (by simp) ?_
    simp
    exact .own [(0, 0)] (by simp) (by simp) (by simp) (by simp) (by simp)
  · have ht : takeL s a e = ([], a, e) := if_neg c
    simp [c, ht, strs_nil]
    exact .wkOwn _ (Wk.nilRd 1 [(4, .rd 1 [])] (by simp)) [(0, 0)] (by simp) (by simp) (by simp) (by simp) (by simp)
def endE (s : ByteArray) (a e : Int) (b : Bool) : Int := if e = 0 then if endC s a = 0 then if b then 0 else 13 else 13 else e
theorem end_call (s : ByteArray) (a e : Int) {f : FuncId} {sz : Nat} {rows : List (List PV)} (b : Bool) (hf : CallOk Tryz.prog f [.rp sz rows 0 0] [] (.val (.bool b)) []) : CallOk Tryz.prog 79 [.ref 0 3 0 0, .clo f [.rp sz rows 0 0]] [(0, rdrO s a e)] (eN (endE s a e b)) [(0, rdrO s a (endE s a e b))] := by
  refine .of_exec Tryz.func79 rfl (enters_79) rfl rfl (Nat.le_of_ble_eq_true rfl) pre1 ?_
  by_cases c : e = 0
  · subst c
    simp
    refine .plain (cend_call s a) (by simp) (by simp) ?_
    by_cases c2 : endC s a = 0
    · simp [c2]
      refine .plain hf (by simp) (by simp) ?_
      cases b with
      | true =>
        have he : endE s a 0 true = 0 := by simp [endE, c2]
        simp [he]
        exact .own [(0, 0)] (by simp) (by simp) (by simp) (by simp) (by simp)
      | false =>
        have he : endE s a 0 false = 13 := by simp [endE, c2]
        simp [he]
        exact .own [(0, 0)] (by simp) (by simp) (by simp) (by simp) (by simp)
    · have he : endE s a 0 b = 13 := by simp [endE, c2]
      simp [c2, he]
      exact .own [(0, 0)] (by simp) (by simp) (by simp) (by simp) (by simp)
  · have he : endE s a e b = e := if_neg c
    simp [c, he]
    trace_state
    exact .own [(0, 0)] (by simp) (by simp) (by simp) (by simp) (by simp)
theorem decIs_call {k : Int} {ls cs : List ByteArray} (hk : isI64 k) (hl : ls.length ≤ 4294967296) (hc : cs.length ≤ 4294967296) : CallOk Tryz.prog 80 [.rp 3 [[.val (.int .i64 k), .rd 1 (strs ls), .rd 1 (strs cs)]] 0 0] [] (.val (.bool (rightQ k ls cs))) [] := by
  refine .of_exec Tryz.func80 rfl (enters_80) rfl rfl (Nat.le_of_ble_eq_true rfl) (fun n _ => rfl) ?_
  simp
  refine .plain (right_call hk hl hc) (by simp) (by simp) ?_
  simp
  exact .plain (by simp) (by simp)
end Go.Proofs.YtbigcojlpcchiaaGreat.Sy
