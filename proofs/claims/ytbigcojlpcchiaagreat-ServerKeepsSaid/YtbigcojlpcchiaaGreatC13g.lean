/- Layer 13: the law's first calls. -/
import Derived.Test.YtbigcojlpcchiaaGreatC13f
import Derived.Test.YtbigcojlpcchiaaGreatSyGiv
namespace Go.Proofs.YtbigcojlpcchiaaGreat.Sy
open Go Go.RowKit
set_option linter.unusedVariables false
set_option linter.unusedSimpArgs false
set_option maxRecDepth 10000
set_option maxHeartbeats 4000000
open Bk (Sto rowsB stoP putS getS delS RightI inB)
theorem DoN_call {s : Sto} {lim k : Int} (hs : s.bs.length < 1000000) (hk : 0 ≤ k ∧ k ≤ 1000) :
    CallOk Tryz.prog 18 [srvP s lim, .agg [.val (.int .i64 k), .val (.slice none 0 0), .val (.slice none 0 0)]] [] (.tup [srvP (doV s lim k [] []).1 lim, (doV s lim k [] []).2.P]) [] :=
  (Do_call (ls := []) (cs := []) hs ⟨by omega, by omega⟩ (by simp) (by simp)).weak13 fun C vs h => by
    obtain ⟨v, w, rfl, hv, hw⟩ := reL2 h
    exact .cons hv (.cons (hw.nilRd1 1) (.nil _))
theorem DoC_call {s : Sto} {lim k : Int} {ls : List ByteArray} (hs : s.bs.length < 1000000) (hk : 0 ≤ k ∧ k ≤ 1000) (hl : ls.length ≤ 1000) :
    CallOk Tryz.prog 18 [srvP s lim, .agg [.val (.int .i64 k), .rd 1 (strs ls), .val (.slice none 0 0)]] [] (.tup [srvP (doV s lim k ls []).1 lim, (doV s lim k ls []).2.P]) [] :=
  (Do_call (cs := []) hs ⟨by omega, by omega⟩ (by omega) (by simp)).weak13 fun C vs h => by
    obtain ⟨v, w, rfl, hv, hw⟩ := reL2 h
    exact .cons hv (.cons (hw.nilRd1 1) (.nil _))
abbrev strB (l : List ByteArray) : Ob := ⟨9, 1, strs l, .cells⟩
theorem DoP_call {s : Sto} {lim : Int} {l c : ByteArray} (hs : s.bs.length < 1000000) :
    CallOk Tryz.prog 18 [srvP s lim, .agg [.val (.int .i64 1), .sl 0 1 0 1, .sl 1 1 0 1]] [(0, strB [l]), (1, strB [c])] (.tup [srvP (doV s lim 1 [l] [c]).1 lim, (doV s lim 1 [l] [c]).2.P]) [] :=
  .give [0, 1] (Do_call (ls := [l]) (cs := [c]) hs ⟨by omega, by omega⟩ (by simp) (by simp)) (by simp [rowsV]) (by simp [rowsV]) (by simp [rowsV]) (by simp)
theorem DoG_call {s : Sto} {lim : Int} {l c : ByteArray} (hs : s.bs.length < 1000000) :
    CallOk Tryz.prog 18 [srvP s lim, .agg [.val (.int .i64 2), .sl 0 1 0 2, .val (.slice none 0 0)]] [(0, strB [l, c])] (.tup [srvP (doV s lim 2 [l, c] []).1 lim, (doV s lim 2 [l, c] []).2.P]) [] :=
  .give [0] (DoC_call (ls := [l, c]) hs (by omega) (by simp)) (by simp [rowsV]) (by simp [rowsV]) (by simp [rowsV]) (by simp)
def awK0 : Sto := Bk.freshS 8
def awK1 : Sto := (doV awK0 5 1 [labJ 1] [cellJ 1]).1
theorem awk1 : (doV awK0 5 1 [labJ 1] [cellJ 1]).2 = ⟨1, 0, [], 0, 0⟩ := by decide +kernel
theorem awk2 : (doV awK1 5 2 [labJ 1, labJ 2] []).2 = ⟨2, 0, [cellJ 1, ⟨#[]⟩], 0, 0⟩ := by decide +kernel
theorem awk3 : (doV awK0 5 4 [] []).2 = ⟨4, 0, [], 0, 5⟩ := by decide +kernel
theorem awk4 : (stepV awK0 5 ⟨#[98, 97, 100]⟩).2.size = 20 := by decide +kernel
theorem awk5 : rightV awK1 5 = true := do_right (new_right (by omega))
theorem awake13_call : CallOk Tryz.prog 9 [] [] (.val (.bool true)) [] := by
  refine .of_exec Tryz.func9 rfl (enters_9) rfl rfl (Nat.le_of_ble_eq_true rfl) (fun n _ => rfl) ?_
  have h0 : awK0.bs.length < 1000000 := by decide
  have h1 : awK1.bs.length < 1000000 := rightI_small (rightV_iff.1 awk5).1
  have c1 := snew_call 5
  have c2 := snew_call (-1)
  have e1 : newV 5 = (awK0, 5, 0) := rfl
  have e2 : newV (-1) = (⟨[], 0, 0⟩, 0, 1) := rfl
  rw [e1] at c1
  rw [e2] at c2
  have l1 := label11_call (n := 1) ⟨by omega, by omega⟩
  have l2 := label11_call (n := 2) ⟨by omega, by omega⟩
  have l3 := cell11_call (n := 1) ⟨by omega, by omega⟩
  have d1 := DoP_call (s := awK0) (lim := 5) (l := labJ 1) (c := cellJ 1) h0
  have d2 := DoG_call (s := awK1) (lim := 5) (l := labJ 1) (c := labJ 2) h1
  have d3 := DoN_call (s := awK0) (lim := 5) (k := 4) h0 (by omega)
  have d4 := Step_call (s := awK0) (lim := 5) ⟨#[98, 97, 100]⟩ h0
  have d5 := sright_call (s := awK1) (lim := 5) h1
  rw [awk1, ← awK1] at d1
  rw [awk2] at d2
  rw [awk3] at d3
  rw [awk5] at d5
  have hc1 : (cellJ 1).size = 40 := cellJ_size 1
  have a4 := awk4
  generalize stepV awK0 5 ⟨#[98, 97, 100]⟩ = T at *
  generalize doV awK1 5 2 [labJ 1, labJ 2] [] = T2 at *
  generalize doV awK0 5 4 [] [] = T3 at *
  generalize awK1 = k1 at *
  generalize awK0 = k0 at *
  generalize labJ 1 = x1 at *
  generalize labJ 2 = x2 at *
  generalize cellJ 1 = y1 at *
  have m1 : 1 ≤ maxLen := by decide
  have m2 : 2 ≤ maxLen := by decide
  simp
  refine .plain c1 (by simp) (by simp) ?_
  simp
  refine .plain l1 (by simp) (by simp) ?_
  simp
  refine .plain l3 (by simp) (by simp) ?_
  simp [m1]
  refine callK.own [] [(176, 0), (192, 1)] d1 (by simp) (by simp) (by simp) (by simp) (by simp) (by simp [rowsV]) (by simp) (by simp) (by simp) (by simp) ?_
  simp
  refine callT.plain l2 (by simp) (by simp) ?_
  simp [m2]
  refine callT.own [] [(296, 0)] d2 (by simp) (by simp) (by simp) (by simp) (by simp) (by simp [rowsV]) (by simp) (by simp) (by simp) (by simp) ?_
  simp
  refine ⟨rfl, .plain d3 (by simp) (by simp) ?_⟩
  simp
  refine .plain d4 (by simp) (by simp) ?_
  simp
  refine .plain c2 (by simp) (by simp) ?_
  simp [a4, rowsV]
  refine .plain d5 (by simp) (by simp) ?_
  simp
  exact .plain (by simp) (by simp)
end Go.Proofs.YtbigcojlpcchiaaGreat.Sy
