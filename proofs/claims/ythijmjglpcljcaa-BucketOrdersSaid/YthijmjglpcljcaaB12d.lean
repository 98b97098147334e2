/- Layer 12: find over its way. -/
import Derived.Test.YthijmjglpcljcaaB12c
namespace Go.Proofs.Ythijmjglpcljcaa.Sy
open Go Go.RowKit
set_option linter.unusedVariables false
set_option linter.unusedSimpArgs false
set_option maxRecDepth 10000
set_option maxHeartbeats 4000000
theorem WPg.rangeV {P : Program} {J : Jd} (hJ : ∀ r, J.ok r → r = none) {g : Operand} {ps : Array Tmp} {asg body : Code} {st : St} {Q : Exit → St → Prop} {f : FuncId} {caps : List PV} {fn : Func} {c : Code} {n : Nat} (hg : evP st.regs g = .clo f caps)
    (hfn : P.funcs[f]? = some fn) (hb : fn.body = some c) (hent : entersB P f = true) (hn : fn.ntmps = n) (hlen : caps.length + 1 ≤ n) (hres : fn.results = #[])
    (h : ∀ tm fid dfs A B, (∀ J st Q, exec J P A st Q = exec J P asg st Q) → (∀ J st Q, exec J P B st Q = exec J P body st Q) → exec (.fn (st.new + 8)) P c ⟨n, parRegs 0 (.yld st.new :: caps), (st.new, ⟨0, 0, [], .loop ⟨st.n, st.regs, tm, fid, ps, A, B, dfs, .ready, none⟩⟩) :: st.obs, st.new + 8⟩ fun e s => match e with
      | .normal => rangeQ st.new st.n tm Q s
      | .ret => rangeQ st.new st.n tm Q s
      | _ => False) : WPg J P (.rangeFunc g ps asg body) st Q :=
  .rangeX hJ hg hfn hb hent hn hlen hres fun tm fid dfs => h tm fid dfs _ _ (fun _ _ _ => rfl) (fun _ _ _ => rfl)
def find_inv (s : Sto) (lab : ByteArray) (tm : Array Value) (fid : FuncId) (dfs : Nat) (A B : Code) (m : Nat) (st : St) : Prop := ∃ i : Nat, ∃ room : Int, m = s.bs.length - i ∧ i ≤ s.bs.length ∧ -1 ≤ room ∧ findB s.bs lab = scanB s.bs lab (homeN lab s.bs.length) m i room ∧
  st = ⟨40, [(16, .val (.int .i64 i)), (15, .val (.int .i64 s.bs.length)), (4, .val (.int .i64 s.bs.length)), (5, .val (.int .i64 (homeI lab s.bs.length))), (0, .yld 160), (1, .ref 120 3 0 0)],
    [(160, ⟨0, 0, [], .loop ⟨28, [(5, .ref 88 1 0 0), (4, .ref 80 1 0 0), (3, .ref 72 1 0 0)], tm, fid, #[11, 12], A, B, dfs, .ready, none⟩⟩), (120, ⟨31, 3, [[.rd 3 (rowsB s.bs), .val (.int .i64 s.many), .val (.int .i64 s.gone)]], .cells⟩), (88, ⟨3, 1, [[.val (.int .i64 room)]], .cells⟩), (80, ⟨3, 1, [[.val (.int .i64 0)]], .cells⟩), (72, ⟨9, 1, [[.val (.string lab)]], .cells⟩)], 168⟩
theorem find_call (s : Sto) (lab : ByteArray) (hl : s.bs.length < 4611686018427387904) :
    CallOk Try.prog 35 [stoP s, .val (.string lab)] [] (pairI (findB s.bs lab)) [] := by
  refine .of_exec Try.func35 rfl (enters_35) rfl rfl (Nat.le_of_ble_eq_true rfl) (fun n _ => rfl) ?_
  simp
  refine callK.walk (n := 6) (res := [.tmp 4]) Try.func45 rfl (enters_45) rfl rfl (by simp) ?_
  simp
  refine WPg.rangeV (by simp) (by simp; rfl) (n := 40) Try.func52 rfl (enters_52) rfl (by simp) rfl fun tm fid dfs A B hA hB => ?_
  simp
  refine .plain (home_call lab ⟨by omega, by omega⟩) (by simp) (by simp) ?_
  simp
  refine WPg.loopW (find_inv s lab tm fid dfs A B) ⟨s.bs.length, _, ?_, ⟨0, -1, by simp, by simp, by simp, rfl, rfl⟩⟩ ?_
  · exact Wk.rn [] rfl (by simp) (by simp) (by simp [RowsOk, RowOk])
  rintro m st ⟨i, room, h1, h2, h3, h4, rfl⟩
  by_cases hi : i < s.bs.length
  · have hi' : (i : Int) < s.bs.length := by omega
    have hne : s.bs ≠ [] := by rintro e; rw [e] at hi; simp at hi
    have hk := place_eq (lab := lab) hi hl
    have hkl : placeN s.bs.length (homeN lab s.bs.length) i < s.bs.length := Nat.mod_lt _ (by omega)
    have hw : IntKind.i64.wrap ((i : Int) + 1) = ((i + 1 : Nat) : Int) := by rw [w64 (by omega) (by omega)]; omega
    obtain ⟨b, hb⟩ : ∃ b, s.bs[placeN s.bs.length (homeN lab s.bs.length) i] = b := ⟨_, rfl⟩
    have hd : s.bs.getD (placeN s.bs.length (homeN lab s.bs.length) i) .free = b := by rw [List.getD_eq_getElem?_getD, List.getElem?_eq_getElem hkl, hb]; rfl
    obtain ⟨k, e⟩ : ∃ k : Nat, m = k + 1 := ⟨m - 1, by omega⟩
    rw [e, scanB_succ _ _ _ _ _ _ hd] at h4
    have cr : room = -1 ∨ room ≠ -1 ∧ ¬ room < 0 := by omega
    simp [hi, hi', hne, hk, hkl, rowB, hb]
    refine yieldK.walk (by simp; rfl) rfl rfl (by simp) (by simp) ?_
    by_cases c1 : b.st = 1
    · by_cases c2 : b.lab = lab
      · simp [hA, hB, c1, c2]
        refine ⟨rfl, roundK.mk (by simp; rfl) ?_⟩
        simp
        refine rangeQ.mk (by simp; rfl) rfl rfl (by simp) ?_
        simp
        exact .plain (by simp) (by simp [h4, c1, c2])
      · simp [hA, hB, c1, c2]
        refine roundK.mk (by simp; rfl) ?_
        simp
        refine ⟨k, by omega, _, ?_, ⟨i + 1, room, by omega, by omega, h3, by simpa [c1, c2] using h4, rfl⟩⟩
        rw [hw]
        exact Wk.rn [] rfl (by simp) (by simp) (by simp [RowsOk, RowOk])
    · rcases cr with rfl | ⟨cr, cr'⟩
      · simp [hA, hB, c1]
        refine roundK.mk (by simp; rfl) ?_
        by_cases c4 : b.st = 0
        · simp [c4]
          refine rangeQ.mk (by simp; rfl) rfl rfl (by simp) ?_
          simp
          refine ⟨rfl, .plain (by simp) (by simp [h4, c4])⟩
        · simp [c4]
          refine ⟨k, by omega, _, ?_, ⟨i + 1, (placeN s.bs.length (homeN lab s.bs.length) i : Nat), by omega, by omega, by omega, by simpa [c1, c4] using h4, rfl⟩⟩
          rw [hw]
          exact Wk.rn [] rfl (by simp) (by simp) (by simp [RowsOk, RowOk])
      · simp [hA, hB, c1, cr]
        refine roundK.mk (by simp; rfl) ?_
        by_cases c4 : b.st = 0
        · simp [c4]
          refine rangeQ.mk (by simp; rfl) rfl rfl (by simp) ?_
          simp
          refine ⟨rfl, .plain (by simp) (by simp [h4, c4, cr'])⟩
        · simp [c4]
          refine ⟨k, by omega, _, ?_, ⟨i + 1, room, by omega, by omega, by omega, by simpa [c1, c4, cr'] using h4, rfl⟩⟩
          rw [hw]
          exact Wk.rn [] rfl (by simp) (by simp) (by simp [RowsOk, RowOk])
  · obtain rfl : i = s.bs.length := by omega
    obtain rfl : m = 0 := by omega
    simp
    refine rangeQ.mk (by simp; rfl) rfl rfl (by simp) ?_
    simp
    refine ⟨rfl, .plain (by simp) (by simp [h4, scanB])⟩
end Go.Proofs.Ythijmjglpcljcaa.Sy
