/- Layer 17: the index's ways. -/
import Derived.Test.YtipolblhiljoiaaC17h
import Derived.Test.YtipolblhiljoiaaC17i
import Derived.Test.YtipolblhiljoiaaC17j
import Derived.Test.YtipolblhiljoiaaC17m
namespace Go.Proofs.Ytipolblhiljoiaa.Sy
open Go Go.RowKit
set_option linter.unusedVariables false
set_option linter.unusedSimpArgs false
set_option maxRecDepth 10000
set_option maxHeartbeats 4000000
/-- The index: n documents in the block named nm. -/
abbrev ixO (nm n : Nat) (f : List Int) : Ob := ⟨58, 2, [[.sl nm 2 0 n, .rd 1 (intsR f)]], .cells⟩
theorem pre2 {a b : Ob} (n : Nat) (h : 64 ≤ n) : lookO [(0, a), (1, b)] n = none := by
  simp [lookO, show ¬ n = 0 by omega, show ¬ n = 1 by omega, show ¬ 0 = n by omega, show ¬ 1 = n by omega]
theorem retR.wkOwn {P : Program} {res : List ResultVar} {r : PV} {pre post : List (Nat × Ob)} {e : Exit} {st : St} (st' : St) (hw : Wk 64 st st') (π : List (Nat × Nat)) (he : e = .normal ∨ e = .ret) (hπ : piOk π) (hp : outAll π st'.obs post) (hk : keepAll π pre)
    (h : resOf P st' res fun l => rn2 (fwdN π) (resV l) = r) : retR P res r pre post e st :=
  ⟨he, st', hw, resOf_mono (fun l hl => ⟨π, .own π hl hπ hp hk⟩) h⟩
@[simp] theorem noRdRows_ints (l : List Int) : noRdRows (intsR l) ↔ True := ⟨fun _ => trivial, fun _ r hr c hc => by
  simp only [rowsV, List.mem_map] at hr
  obtain ⟨x, _, rfl⟩ := hr
  simp at hc
  subst hc
  trivial⟩
theorem find_sgn (l : List DocW) (id : Int) : (hasD l id = true → 0 ≤ findD l id) ∧ (hasD l id = false → findD l id = -1) := by
  unfold findD
  constructor <;> intro h
  · rw [if_pos h]; omega
  · rw [if_neg (by rw [h]; simp)]
theorem save_call {l : List DocW} {k id : Int} {s : ByteArray} : CallOk Try.prog 46 [.ref 0 2 0 0, opP k id s] [(0, ixO 1 l.length []), (1, docsO l)] (.val (.int .i64 0)) [(0, ixO 1 l.length []), (1, docsO l)] := by
  refine .of_exec Try.func46 rfl (enters_46) rfl rfl (Nat.le_of_ble_eq_true rfl) pre2 ?_
  simp
  exact .own [(0, 0), (1, 1)] (by simp) (by simp) (by simp) (by simp) (by simp)
theorem compact_call {l : List DocW} {k id : Int} {s : ByteArray} : CallOk Try.prog 45 [.ref 0 2 0 0, opP k id s] [(0, ixO 1 l.length []), (1, docsO l)] (.val (.int .i64 (if (setV s).2 ≠ 0 then (setV s).2 else if (setV s).1.length = 1 then 0 else 1))) [(0, ixO 1 l.length []), (1, docsO l)] := by
  refine .of_exec Try.func45 rfl (enters_45) rfl rfl (Nat.le_of_ble_eq_true rfl) pre2 ?_
  have hS := Set_call (s := s)
  have hz := setV_size s
  generalize setV s = v at *
  obtain ⟨ws, er⟩ := v
  simp
  refine .plain hS (by simp) (by simp) ?_
  by_cases c : er = 0
  · subst c
    by_cases c2 : ws.length = 1
    · have c2' : (ws.length : Int) = 1 := by omega
      simp [c2']
      exact .own [(0, 0), (1, 1)] (by simp) (by simp) (by simp) (by simp) (by simp [c2])
    · have c2' : ¬ (ws.length : Int) = 1 := by omega
      simp [c2']
      exact .own [(0, 0), (1, 1)] (by simp) (by simp) (by simp) (by simp) (by simp [c2])
  · simp [c]
    exact .own [(0, 0), (1, 1)] (by simp) (by simp) (by simp) (by simp) (by simp [c])
/-- The same, the answer handed back to be written to. -/
theorem mall_own {l : List DocW} (h : DocsIn l) {ws : List ByteArray} (hw : ws.length ≤ 1000000) : CallOk Try.prog 21 [.rd 2 (rowsD l), .rd 1 (strs ws)] [] (.sl 1 1 0 (allM l ws).length) [(1, ⟨3, 1, intsR (allM l ws), .cells⟩)] := by
  refine .of_exec Try.func21 rfl (enters_21) rfl rfl (Nat.le_of_ble_eq_true rfl) (fun n _ => rfl) ?_
  have hl := h.len
  simp
  refine callK.walk (n := 6) (res := [.tmp 4]) Try.func35 rfl (enters_35) rfl rfl (by simp) ?_
  simp
  refine WPg.rangeV (by simp) (by simp; rfl) (n := 26) Try.func52 rfl (enters_52) rfl (by simp) rfl fun tm fid dfs A B hA hB => ?_
  simp
  refine WPg.loopW (mall_inv l ws tm fid dfs A B) ⟨l.length, _, ?_, ⟨0, by simp, by simp, rfl⟩⟩ ?_
  · refine (Wk.nil [] [64] 3 1).trans ?_
    exact Wk.rn [(160, 136)] rfl (by simp) (by simp) (by simp [allM, intsR_nil])
  rintro m st ⟨i, h1, h2, rfl⟩
  by_cases hi : i < l.length
  · have hi' : (i : Int) < l.length := by omega
    have hne : l ≠ [] := by rintro rfl; simp at hi
    have hwr : IntKind.i64.wrap ((i : Int) + 1) = ((i + 1 : Nat) : Int) := by rw [w64 (by omega) (by omega)]; omega
    obtain ⟨x, hx⟩ : ∃ x, l[i] = x := ⟨_, rfl⟩
    have hxm : x ∈ l := by rw [← hx]; exact List.getElem_mem hi
    obtain ⟨x1, x2, x3⟩ := h.ws x hxm
    have htk : l.take (i + 1) = l.take i ++ [x] := by rw [wtake_one hi, hx]
    have hlen : (allM (l.take i) ws).length ≤ i := by
      unfold allM
      rw [List.length_map]
      exact Nat.le_trans (List.length_filter_le _ _) (by simp; omega)
    have hL := lacking_call (d := x) hw x2
    simp [hi, hi', hx, hne]
    refine .lent [168] hL (by simp) (by simp) (by simp) (by simp) (by simp) (by simp) ?_
    cases hb : hasAll ws x with
    | false =>
      have e : allM (l.take (i + 1)) ws = allM (l.take i) ws := by rw [htk]; simp [allM, hb]
      simp
      refine ⟨l.length - (i + 1), by omega, _, ?_, ⟨i + 1, rfl, by omega, rfl⟩⟩
      rw [hwr, e]
      exact Wk.rn [(136, 136)] rfl (by simp) (by simp) (by simp)
    | true =>
      have e : allM (l.take (i + 1)) ws = allM (l.take i) ws ++ [x.id] := by rw [htk]; simp [allM, hb]
      generalize allM (l.take i) ws = out at *
      have m1 : 1 ≤ maxLen := by decide
      have m2 : out.length ≤ 140737488355327 := by omega
      have m3 : (out.length + 1) * 8 ≤ 140737488355328 := by omega
      simp
      refine yieldK.walk (by simp; rfl) rfl rfl (by simp) (by simp) ?_
      simp [hA, hB, m1, m2, m3]
      refine roundK.mk (by simp; rfl) ?_
      simp
      refine ⟨l.length - (i + 1), by omega, _, ?_, ⟨i + 1, rfl, by omega, rfl⟩⟩
      rw [hwr, e]
      exact Wk.rn [(296, 136)] rfl (by simp) (by simp) (by simp)
  · obtain rfl : i = l.length := by omega
    simp
    refine rangeQ.mk (by simp; rfl) rfl rfl (by simp) ?_
    simp
    exact .own [(136, 1)] (by simp) (by simp) (by simp) (by simp) (by simp)
theorem search_call {l : List DocW} (h : DocsIn l) {k id : Int} {s : ByteArray} : CallOk Try.prog 44 [.ref 0 2 0 0, opP k id s] [(0, ixO 1 l.length []), (1, docsO l)] (.val (.int .i64 (if (setV s).2 ≠ 0 then (setV s).2 else if (setV s).1 = [] then 1 else 0))) [(0, ixO 1 l.length (if (setV s).2 ≠ 0 then [] else if (setV s).1 = [] then [] else allM l (setV s).1)), (1, docsO l)] := by
  refine .of_exec Try.func44 rfl (enters_44) rfl rfl (Nat.le_of_ble_eq_true rfl) pre2 ?_
  have hS := Set_call (s := s)
  have hz := setV_size s
  generalize setV s = v at *
  obtain ⟨ws, er⟩ := v
  have hA := mall_own h (ws := ws) (by simp at hz; omega)
  simp
  refine .plain hS (by simp) (by simp) ?_
  by_cases c : er = 0
  · subst c
    by_cases c2 : ws = []
    · subst c2
      simp
      exact .own [(0, 0), (1, 1)] (by simp) (by simp) (by simp) (by simp) (by simp)
    · have c2' : ¬ (ws.length : Int) = 0 := by have := List.length_pos_iff.2 c2; omega
      simp [c2]
      refine callK.own [1] [] hA (by simp) (by simp) (by simp) (by simp) (by simp) (by simp) (by simp) (by simp) (by simp) (by simp) ?_
      simp
      exact .wkOwn ⟨30, [(4, .val (.int .i64 0))], [(0, ixO 1 l.length (allM l ws)), (1, docsO l)], 288⟩ (Wk.frzN [249] rfl rfl (by simp) (by simp) (by simp)) [(0, 0), (1, 1)] (by simp) (by simp) (by simp [c2]) (by simp) (by simp)
  · simp [c]
    exact .own [(0, 0), (1, 1)] (by simp) (by simp) (by simp) (by simp) (by simp [c])
theorem remove_no {l : List DocW} (hl : l.length ≤ 1000000) {k id : Int} {s : ByteArray} (hn : hasD l id = false) : CallOk Try.prog 42 [.ref 0 2 0 0, opP k id s] [(0, ixO 1 l.length []), (1, docsO l)] (.val (.int .i64 22)) [(0, ixO 1 l.length []), (1, docsO l)] := by
  refine .of_exec Try.func42 rfl (enters_42) rfl rfl (Nat.le_of_ble_eq_true rfl) pre2 ?_
  have hP := place_call hl (id := id)
  rw [(find_sgn l id).2 hn] at hP
  simp
  refine callT.own [1] [] hP (by simp) (by simp) (by simp) (by simp) (by simp) (by simp) (by simp) (by simp) (by simp) (by simp) ?_
  simp
  refine ⟨rfl, ?_⟩
  exact .own [(0, 0), (1, 1)] (by simp) (by simp) (by simp) (by simp) (by simp)
theorem remove_yes {l : List DocW} (hl : l.length ≤ 1000000) {k id : Int} {s : ByteArray} (hs : sortD l) (hn : hasD l id = true) : CallOk Try.prog 42 [.ref 0 2 0 0, opP k id s] [(0, ixO 1 l.length []), (1, docsO l)] (.val (.int .i64 0)) [(0, ixO 1 (delD l id).length []), (1, docsO (delD l id))] := by
  refine .of_exec Try.func42 rfl (enters_42) rfl rfl (Nat.le_of_ble_eq_true rfl) pre2 ?_
  have hP := place_call hl (id := id)
  obtain ⟨i, hi, e1, e2⟩ := find_at hn
  rw [e1] at hP
  have hD := delete_call hi hl
  rw [← del_at hs hi e2] at hD
  have hdl : (delD l id).length = l.length - 1 := by rw [del_at hs hi e2, List.length_append, List.length_take, List.length_drop]; omega
  have hwr : IntKind.i64.wrap ((i : Int) + 1) = (i : Int) + 1 := w64 (by omega) (by omega)
  have hi0 : ¬ (i : Int) < 0 := by omega
  have hne : l ≠ [] := by rintro rfl; simp at hi
  rw [hdl]
  simp
  refine callT.own [1] [] hP (by simp) (by simp) (by simp) (by simp) (by simp) (by simp) (by simp) (by simp) (by simp) (by simp) ?_
  simp [hi0, hwr, -Int.natCast_add]
  refine ⟨rfl, ?_⟩
  refine callK.own [] [(1, 0)] hD (by simp) (by simp) (by simp) (by simp) (by simp) (by simp [hne]) (by simp) (by simp) (by simp) (by simp) ?_
  simp
  exact .own [(0, 0), (1, 1)] (by simp) (by simp) (by simp) (by simp) (by simp)
end Go.Proofs.Ytipolblhiljoiaa.Sy
