/- Layer 17: the law's first calls. -/
import Derived.Test.YtipolblhiljoiaaC17z
namespace Go.Proofs.Ytipolblhiljoiaa.Sy
open Go Go.RowKit
set_option linter.unusedVariables false
set_option linter.unusedSimpArgs false
set_option maxRecDepth 10000
set_option maxHeartbeats 4000000
theorem CallTo.argsW {P : Program} {f : FuncId} {args args' : List PV} {pre post : List (Nat × Ob)} {r : PV} (h : CallOk P f args pre r post) (hw : ∀ C vs, ReL C args' vs → ReL C args vs) : CallOk P f args' pre r post :=
  ⟨h.1, fun C vs ha hob hs hm => h.2 C vs (hw C vs ha) hob hs hm⟩
theorem mDoN_call {k id : Int} {s : ByteArray} : CallOk Try.prog 11 [.val (.slice none 0 0), opP k id s] [] (.tup [.rd 2 (rowsD (doM [] k id s).1), .rd 1 (intsR (doM [] k id s).2.1), .val (.int .i64 (doM [] k id s).2.2)]) [] :=
  (mDo_call (l := []) (right_in (by decide))).argsW fun C vs h => by
    obtain ⟨v, w, rfl, hv, hw⟩ := reL2 h
    exact .cons (hv.nilRd 2) (.cons hw (.nil _))
theorem awake17_call : CallOk Try.prog 8 [] [] (.val (.bool true)) [] := by
  refine .of_exec Try.func8 rfl (enters_8) rfl rfl (Nat.le_of_ble_eq_true rfl) (fun n _ => rfl) ?_
  have hin := right_in aw_right
  have d1 := mDoN_call (k := 1) (id := 7) (s := catdogW)
  have d2 := mDo_call hin (k := 4) (id := 0) (s := dogW)
  have d3 := mDo_call hin (k := 1) (id := 7) (s := ⟨#[]⟩)
  have d4 := mDo_call hin (k := 2) (id := 8) (s := ⟨#[]⟩)
  have d5 := mDo_call hin (k := 0) (id := 0) (s := ⟨#[]⟩)
  have d6 := find_call hin (id := 7)
  have d7 := mall_own hin (ws := [catW, dogW]) (by decide)
  have d8 := mright_call hin
  have d9 := rInts_call (l := [7]) (r := [7]) (by decide) (by decide)
  rw [aw1] at d1
  rw [aw2] at d2
  rw [aw3] at d3
  rw [aw4] at d4
  rw [aw5] at d5
  rw [aw6] at d6
  rw [aw7] at d7
  rw [aw_right] at d8
  have e9 : eqI [7] [7] = true := by decide
  rw [e9] at d9
  rw [show catdogW = ⟨#[99, 97, 116, 32, 100, 111, 103]⟩ from rfl] at d1
  rw [show dogW = ⟨#[100, 111, 103]⟩ from rfl] at d2
  generalize awL = L at *
  simp
  refine .plain d1 (by simp) (by simp) ?_
  simp
  refine .plain d2 (by simp) (by simp) ?_
  simp
  refine .plain d3 (by simp) (by simp) ?_
  simp
  refine .plain d4 (by simp) (by simp) ?_
  simp
  refine .plain d6 (by simp) (by simp) ?_
  simp
  refine .plain d5 (by simp) (by simp) ?_
  simp
  have m1 : 1 ≤ maxLen := by decide
  have m2 : 2 ≤ maxLen := by decide
  refine ⟨m1, fun _ => ?_⟩
  refine .lent [560] d9 (by simp [rowsV]) (by simp) (by simp) (by simp) (by simp) (by simp) ?_
  simp [m2]
  refine callK.own [768] [] d7 (by simp [rowsV, catW, dogW]) (by simp) (by simp) (by simp) (by simp) (by simp) (by simp) (by simp) (by simp) (by simp) ?_
  simp
  refine .plain d8 (by simp) (by simp) ?_
  simp
  exact .plain (by simp) (by simp)
end Go.Proofs.Ytipolblhiljoiaa.Sy
