/- Layer 13: the document's put, Do, Step. -/
import Derived.Test.YtbigcojlpcchiaaGreatC13q
import Derived.Test.YtbigcojlpcchiaaGreatC11rb
namespace Go.Proofs.YtbigcojlpcchiaaGreat.Sy
open Go Go.RowKit
set_option linter.unusedVariables false
set_option linter.unusedSimpArgs false
set_option maxRecDepth 10000
set_option maxHeartbeats 4000000
open Bk (Sto rowsB stoP putS getS delS RightI inB)
abbrev srvO (s : Sto) (lim : Int) : Ob := ⟨33, 4, [rowS s lim], .cells⟩
abbrev srv0 : Ob := ⟨33, 4, [[.val (.slice none 0 0), .val (.int .i64 0), .val (.int .i64 0), .val (.int .i64 0)]], .cells⟩
abbrev rsp0 (k : Int) (q : PV) (m : Int) : Ob := ⟨45, 5, [[.val (.int .i64 k), .val (.int .i64 0), q, .val (.int .i64 m), .val (.int .i64 0)]], .cells⟩
abbrev reqC13 (K : Int) (ls cs : List ByteArray) : Ob := ⟨26, 3, [[.val (.int .i64 K), .rd 1 (strs ls), .rd 1 (strs cs)]], .cells⟩
def rput_one (s : Sto) (lim K : Int) (ls cs : List ByteArray) (m : Nat) (st : St) : Prop := ∃ (i : Nat) (n : Int), m = ls.length - i ∧ i ≤ ls.length ∧ (0 ≤ n ∧ n ≤ i) ∧ goesV s ls cs 0 = goesV s (ls.drop i) (cs.drop i) n ∧
  st = ⟨86, [(7, .val (.int .i64 i)), (6, .val (.int .i64 n)), (5, .ref 88 5 0 0), (4, .ref 80 4 0 0), (3, .ref 72 3 0 0), (2, .ref 64 4 0 0)], [(64, srvO s lim), (72, reqC13 K ls cs), (80, srv0), (88, rsp0 0 (.val (.slice none 0 0)) 0)], 96⟩
def rput_two (s : Sto) (lim K : Int) (ls cs : List ByteArray) (m : Nat) (st : St) : Prop := ∃ (i : Nat) (Q : Sto), m = ls.length - i ∧ i ≤ ls.length ∧ RightI Q ∧ putsV s ls cs = putsV Q (ls.drop i) (cs.drop i) ∧
  st = ⟨86, [(11, .val (.int .i64 i)), (10, .ref 96 4 0 0), (5, .ref 88 5 0 0), (4, .ref 80 4 0 0), (3, .ref 72 3 0 0)], [(96, srvO Q lim), (72, reqC13 K ls cs), (80, srv0), (88, rsp0 0 (.val (.slice none 0 0)) 0)], 104⟩
theorem rput_call {s : Sto} {lim K : Int} {ls cs : List ByteArray} (h : rightV s lim = true) (hq : rightQ K ls cs = true) (h1 : K = 1) :
    CallOk Tryz.prog 39 [srvP s lim, reqP K ls cs] [] (.tup [srvP (putV s lim ls cs).1 lim, resP 1 (putV s lim ls cs).2 [] 0 0]) [] := by
  refine .of_exec Tryz.func39 rfl (enters_39) rfl rfl (Nat.le_of_ble_eq_true rfl) (fun n _ => rfl) ?_
  obtain ⟨hr, l0, l1, l2⟩ := rightV_iff.1 h
  obtain ⟨f1, f2, f3, f4, f5, f6, f7, g1, _⟩ := right_facts hq
  have hlen := g1 h1
  have hPs := rightI_small hr
  have hsm := Bk.right_small hr
  have hpv : putV s lim ls cs = match goesV s ls cs 0 with
    | none => (s, 2)
    | some m => if lim < s.many + m then (s, 1) else (putsV s ls cs, 0) := rfl
  simp
  refine WPg.loopW (rput_one s lim K ls cs) ⟨ls.length, _, ?_, ⟨0, 0, by simp, by simp, by simp, by simp, rfl⟩⟩ ?_
  · exact Wk.rn [(64, 64), (72, 72), (80, 80), (88, 88)] rfl (by simp) (by simp) (by simp)
  rintro m st ⟨i, n, k1, k2, k3, k4, rfl⟩
  by_cases hi : i < ls.length
  · have hi' : (i : Int) < ls.length := by omega
    have hic : i < cs.length := by omega
    have hic' : (i : Int) < cs.length := by omega
    have hw : IntKind.i64.wrap ((i : Int) + 1) = ((i + 1 : Nat) : Int) := by rw [w64 (by omega) (by omega)]; omega
    have hwn : IntKind.i64.wrap (n + 1) = n + 1 := w64 (by omega) (by omega)
    obtain ⟨x, hx⟩ : ∃ x, ls[i] = x := ⟨_, rfl⟩
    obtain ⟨y, hy⟩ : ∃ y, cs[i] = y := ⟨_, rfl⟩
    rw [List.drop_eq_getElem_cons hi, List.drop_eq_getElem_cons hic, hx, hy, goesV] at k4
    have hg := Bk.refget_call s x hPs
    have hbool : (getS s x).2 = false ↔ (getS s x).1 = ⟨#[]⟩ := by
      rw [get_none hr]
      have := get_iff hr x
      constructor
      · intro e c hc
        rw [this.2 ⟨c, hc⟩] at e
        cases e
      · intro hc
        cases e : (getS s x).2 with
        | false => rfl
        | true => obtain ⟨c, h'⟩ := this.1 e; exact absurd h' (hc c)
    generalize getS s x = G at *
    obtain ⟨z, b⟩ := G
    simp only at k4 hg hbool
    simp [hi, hi', hx]
    refine callT.plain hg (by simp) (by simp) ?_
    cases b with
    | false =>
      rw [if_pos (hbool.1 rfl)] at k4
      simp [hwn]
      refine ⟨rfl, ls.length - (i + 1), by omega, _, ?_, ⟨i + 1, n + 1, rfl, by omega, by omega, k4, rfl⟩⟩
      rw [hw]
      exact Wk.rn [(64, 64), (72, 72), (80, 80), (88, 88)] rfl (by simp) (by simp) (by simp)
    | true =>
      rw [if_neg (fun e => by have := hbool.2 e; cases this)] at k4
      by_cases c2 : z = y
      · rw [if_pos c2] at k4
        subst c2
        simp [hi, hi', hic, hic', hy]
        refine ⟨rfl, ls.length - (i + 1), by omega, _, ?_, ⟨i + 1, n, rfl, by omega, by omega, k4, rfl⟩⟩
        rw [hw]
        exact Wk.rn [(64, 64), (72, 72), (80, 80), (88, 88)] rfl (by simp) (by simp) (by simp)
      · rw [if_neg c2] at k4
        rw [k4] at hpv
        simp [hi, hi', hic, hic', hy, c2]
        refine ⟨rfl, .plain (refsown_call hPs) (by simp) (by simp) ?_⟩
        simp
        exact .wk _ (Wk.nilRdB 1 [88]) (by simp) (by simp [hpv, strs_nil])
  · obtain rfl : i = ls.length := by omega
    rw [List.drop_length] at k4
    have k4' : goesV s ls cs 0 = some n := by rw [k4]; cases cs.drop ls.length <;> rfl
    rw [k4'] at hpv
    simp only at hpv
    have hwm : IntKind.i64.wrap (s.many + n) = s.many + n := w64 (by omega) (by omega)
    by_cases c3 : lim < s.many + n
    · rw [if_pos c3] at hpv
      simp [hwm, c3]
      refine .plain (refsown_call hPs) (by simp) (by simp) ?_
      simp
      exact .wk _ (Wk.nilRdB 1 [88]) (by simp) (by simp [hpv, strs_nil])
    · rw [if_neg c3] at hpv
      rw [hpv]
      simp [hwm, c3]
      refine .plain (refsown_call hPs) (by simp) (by simp) ?_
      simp
      refine WPg.loopW (rput_two s lim K ls cs) ⟨ls.length, _, ?_, ⟨0, s, by simp, by simp, hr, by simp, rfl⟩⟩ ?_
      · exact Wk.rn [(216, 96), (72, 72), (80, 80), (88, 88)] rfl (by simp) (by simp) (by simp)
      rintro m st ⟨i, Q, p1, p2, p3, p4, rfl⟩
      have hPP := rightI_small p3
      by_cases hi : i < ls.length
      · have hi' : (i : Int) < ls.length := by omega
        have hic : i < cs.length := by omega
        have hic' : (i : Int) < cs.length := by omega
        have hw : IntKind.i64.wrap ((i : Int) + 1) = ((i + 1 : Nat) : Int) := by rw [w64 (by omega) (by omega)]; omega
        obtain ⟨x, hx⟩ : ∃ x, ls[i] = x := ⟨_, rfl⟩
        obtain ⟨y, hy⟩ : ∃ y, cs[i] = y := ⟨_, rfl⟩
        have hx16 := f3 x (by rw [← hx]; exact List.getElem_mem _)
        have hy40 := f4 y (by rw [← hy]; exact List.getElem_mem _)
        rw [List.drop_eq_getElem_cons hi, List.drop_eq_getElem_cons hic, hx, hy, putsV] at p4
        have hp := Bk.refput_call Q x y hPP
        have hR := Bk.put_right p3 hx16 hy40
        generalize putS Q x y = D at *
        obtain ⟨P', e⟩ := D
        simp only at p4 hp hR
        simp [hi, hi', hic, hic', hx, hy]
        refine callT.plain hp (by simp) (by simp) ?_
        simp
        refine ⟨rfl, ls.length - (i + 1), by omega, _, ?_, ⟨i + 1, P', by omega, by omega, hR, p4, rfl⟩⟩
        rw [hw]
        exact Wk.rn [(96, 96), (72, 72), (80, 80), (88, 88)] rfl (by simp) (by simp) (by simp)
      · obtain rfl : i = ls.length := by omega
        rw [List.drop_length] at p4
        have p4' : putsV s ls cs = Q := by rw [p4]; cases cs.drop ls.length <;> rfl
        rw [p4']
        simp
        exact .wk _ (Wk.nilRdB 1 [88]) (by simp) (by simp [strs_nil])
end Go.Proofs.YtbigcojlpcchiaaGreat.Sy
