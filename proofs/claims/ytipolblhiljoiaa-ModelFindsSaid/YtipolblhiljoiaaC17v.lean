/- Layer 17: the program's Do. -/
import Derived.Test.YtipolblhiljoiaaC17o
import Derived.Test.YtipolblhiljoiaaSyBox
namespace Go.Proofs.Ytipolblhiljoiaa.Sy
open Go Go.RowKit
set_option linter.unusedVariables false
set_option linter.unusedSimpArgs false
set_option maxRecDepth 10000
set_option maxHeartbeats 8000000
abbrev kinds17 (p : PV) : Ob := ⟨0, 2, [[.val (.int .i64 1), .bnd 41 [p]], [.val (.int .i64 2), .bnd 42 [p]], [.val (.int .i64 3), .bnd 43 [p]], [.val (.int .i64 4), .bnd 44 [p]], [.val (.int .i64 5), .bnd 45 [p]], [.val (.int .i64 6), .bnd 46 [p]]], .map⟩
theorem kinds17_call {l : List DocW} : CallOk Try.prog 24 [.ref 0 2 0 0] [(0, ixO 1 l.length []), (1, docsO l)] (.mp 2) [(0, ixO 1 l.length []), (1, docsO l), (2, kinds17 (.ref 0 2 0 0))] := by
  refine .of_exec Try.func24 rfl (enters_24) rfl rfl (Nat.le_of_ble_eq_true rfl) pre2 ?_
  simp
  exact .own [(0, 0), (1, 1), (72, 2)] (by simp) (by simp) (by simp) (by simp) (by simp)
def mdo_inv (l : List DocW) (k id : Int) (s : ByteArray) (m : Nat) (st : St) : Prop := ∃ i : Nat, m = l.length - i ∧ i ≤ l.length ∧
  st = ⟨81, [(18, .val (.int .i64 i)), (17, .val (.int .i64 l.length)), (16, .rd 2 (rowsD l)), (7, .ref 72 2 0 0), (3, .ref 64 3 0 0), (0, .rd 2 (rowsD l))], [(64, ⟨32, 3, [[.val (.int .i64 k), .val (.int .i64 id), .val (.string s)]], .cells⟩), (72, ixO 80 i []), (80, docsO (l.take i))], 88⟩
theorem retR.weaken {P : Program} {res : List ResultVar} {r : PV} {pre post : List (Nat × Ob)} {e : Exit} {st st' : St} (hw : Wk 64 st st') (h : retR P res r pre post e st') : retR P res r pre post e st := by
  obtain ⟨h1, st2, h2, h3⟩ := h
  exact ⟨h1, st2, hw.trans h2, h3⟩
theorem nil_row (C : Cx) (vs : List Value) (h : ReL C [.val (.slice none 0 0), .val (.slice none 0 0)] vs) : ReL C [.val (.slice none 0 0), .rd 1 []] vs := by
  obtain ⟨hl, hh⟩ := h
  match vs, hl, hh with
  | [a, b], hl, hh => exact ReL.cons (hh 0 (by simp) (by simp)) (ReL.cons ((hh 1 (by simp) (by simp)).nilRd 1) (ReL.nil C))
theorem mDo_call {l : List DocW} (h : DocsIn l) {k id : Int} {s : ByteArray} :
    CallOk Try.prog 11 [.rd 2 (rowsD l), opP k id s] [] (.tup [.rd 2 (rowsD (doM l k id s).1), .rd 1 (intsR (doM l k id s).2.1), .val (.int .i64 (doM l k id s).2.2)]) [] := by
  refine .of_exec Try.func11 rfl (enters_11) rfl rfl (Nat.le_of_ble_eq_true rfl) (fun n _ => rfl) ?_
  have hl := h.len
  simp
  refine WPg.loopW (mdo_inv l k id s) ⟨l.length, _, ?_, ⟨0, by simp, by simp, rfl⟩⟩ ?_
  · refine (Wk.box1 104 58 2 [.val (.slice none 0 0), .val (.slice none 0 0)] [.val (.slice none 0 0), .rd 1 []] rfl (by simp) rfl nil_row).trans ((Wk.nil [] [104] 41 2).trans ?_)
    exact Wk.rn [(64, 64), (104, 72), (144, 80)] rfl (by simp) (by simp) (by simp [setOb, rowsN_nil, intsR_nil])
  rintro m st ⟨i, h1, h2, rfl⟩
  by_cases hi : i < l.length
  · have hi' : (i : Int) < l.length := by omega
    have hne : l ≠ [] := by rintro rfl; simp at hi
    have hwr : IntKind.i64.wrap ((i : Int) + 1) = ((i + 1 : Nat) : Int) := by rw [w64 (by omega) (by omega)]; omega
    obtain ⟨x, hx⟩ : ∃ x, l[i] = x := ⟨_, rfl⟩
    have hxm : x ∈ l := by rw [← hx]; exact List.getElem_mem hi
    obtain ⟨x1, x2, x3⟩ := h.ws x hxm
    have htk : l.take (i + 1) = l.take i ++ [x] := by rw [wtake_one hi, hx]
    have hO := own_call (d := x) x2
    have m1 : 1 ≤ maxLen := by decide
    have m2 : i ≤ 140737488355327 := by omega
    have m3 : (i + 1) * 32 ≤ 140737488355328 := by omega
    simp [hi, hi', hx, hne]
    refine callT.plain hO (by simp) (by simp) ?_
    simp [m1, m2, m3, hi, hi', hx, hne, h2]
    have htt : List.take i (List.take i l) ++ [⟨x.id, x.ws⟩] = l.take (i + 1) := by rw [List.take_take, Nat.min_self, htk]
    refine ⟨rfl, l.length - (i + 1), by omega, _, ?_, ⟨i + 1, rfl, by omega, rfl⟩⟩
    rw [hwr, htt]
    exact Wk.rn [(64, 64), (72, 72), (192, 80)] rfl (by simp) (by simp) (by simp)
  · obtain rfl : i = l.length := by omega
    have hR := mright_call h
    simp
    refine callT.own [] [(72, 0), (80, 1)] (kinds17_call (l := l)) (by simp) (by simp) (by simp) (by simp) (by simp) (by simp) (by simp) (by simp) (by simp) (by simp) ?_
    cases hg : goesM l k id with
    | true =>
      obtain ⟨g1, g2, g3, g4⟩ := goes_facts hg
      rw [g1] at hR
      have hs := right_sort g1
      obtain ⟨r1, r2⟩ := right_facts17 g1
      have hlen := setV_size s
      have hk : k = 1 ∨ k = 2 ∨ k = 3 ∨ k = 4 ∨ k = 5 ∨ k = 6 := by omega
      have d : doM l k id s = if k = 6 then (l, [], 0)
          else if k = 2 then if hasD l id = true then (delD l id, [], 0) else (l, [], 22)
          else if (setV s).2 ≠ 0 then (l, [], (setV s).2)
          else if k = 1 then if hasD l id = true then (l, [], 21) else if l.length = 40 then (l, [], 20) else (insD l ⟨id, (setV s).1⟩, [], 0)
          else if k = 3 then if hasD l id = true then (repD l id (setV s).1, [], 0) else (l, [], 22)
          else if k = 4 then if (setV s).1 = [] then (l, [], 1) else (l, allM l (setV s).1, 0)
          else if (setV s).1.length = 1 then (l, [], 0) else (l, [], 1) := if_pos hg
      rcases hk with rfl | rfl | rfl | rfl | rfl | rfl
      · have n1 : ¬ id < 0 := by omega
        have n2 : ¬ 1073741824 < id := by omega
        simp
        refine ⟨rfl, ?_⟩
        refine callK.plain hR (by simp) (by simp) ?_
        simp [n1, n2]
        by_cases c : (setV s).2 ≠ 0 ∨ hasD l id = true ∨ l.length = 40
        · have hM := add_no h.len (k := 1) (id := id) (s := s) c
          have eD : doM l 1 id s = (l, [], if (setV s).2 ≠ 0 then (setV s).2 else if hasD l id = true then 21 else 20) := by
            rw [d]
            by_cases c1 : (setV s).2 = 0
            · by_cases c2 : hasD l id = true
              · simp [c1, c2]
              · have c3 : l.length = 40 := by simpa [c1, c2] using c
                simp [c1, c2, c3]
            · simp [c1]
          generalize (if (setV s).2 ≠ 0 then (setV s).2 else if hasD l id = true then 21 else 20 : Int) = er at hM eD
          refine callK.own [] [(72, 0), (80, 1)] hM (by simp) (by simp) (by simp) (by simp) (by simp) (by simp) (by simp) (by simp) (by simp) (by simp) ?_
          simp
          refine ⟨rfl, ?_⟩
          exact .frzD [80] [4, 5, 6] (by simp) (by simp) (by simp) (by simp [eD])
        · simp only [not_or] at c
          obtain ⟨c1, c2, c3⟩ := c
          have hM := add_yes2 h.len hs (k := 1) (id := id) (s := s) (by simpa using c1) (by simpa using c2) c3
          have eD : doM l 1 id s = (insD l ⟨id, (setV s).1⟩, [], 0) := by
            rw [d]
            simp at c1 c2
            simp [c1, c2, c3]
          refine callK.own [] [(72, 0), (80, 1)] hM (by simp) (by simp) (by simp) (by simp) (by simp) (by simp) (by simp) (by simp) (by simp) (by simp) ?_
          simp
          refine ⟨rfl, ?_⟩
          exact .frzD [386] [4, 5, 6] (by simp) (by simp) (by simp) (by simp [eD])
      · have n1 : ¬ id < 0 := by omega
        have n2 : ¬ 1073741824 < id := by omega
        simp
        refine ⟨rfl, ?_⟩
        refine callK.plain hR (by simp) (by simp) ?_
        simp [n1, n2]
        cases c : hasD l id with
        | false =>
          have hM := remove_no h.len (k := 2) (s := s) c
          have eD : doM l 2 id s = (l, [], 22) := by rw [d]; simp [c]
          refine callK.own [] [(72, 0), (80, 1)] hM (by simp) (by simp) (by simp) (by simp) (by simp) (by simp) (by simp) (by simp) (by simp) (by simp) ?_
          simp
          refine ⟨rfl, ?_⟩
          exact .frzD [80] [4, 5, 6] (by simp) (by simp) (by simp) (by simp [eD])
        | true =>
          have hM := remove_yes h.len (k := 2) (s := s) hs c
          have eD : doM l 2 id s = (delD l id, [], 0) := by rw [d]; simp [c]
          refine callK.own [] [(72, 0), (80, 1)] hM (by simp) (by simp) (by simp) (by simp) (by simp) (by simp) (by simp) (by simp) (by simp) (by simp) ?_
          simp
          refine ⟨rfl, ?_⟩
          exact .frzD [80] [4, 5, 6] (by simp) (by simp) (by simp) (by simp [eD])
      · have n1 : ¬ id < 0 := by omega
        have n2 : ¬ 1073741824 < id := by omega
        simp
        refine ⟨rfl, ?_⟩
        refine callK.plain hR (by simp) (by simp) ?_
        simp [n1, n2]
        by_cases c : (setV s).2 ≠ 0 ∨ hasD l id = false
        · have hM := replace_no h.len (k := 3) (id := id) (s := s) c
          have eD : doM l 3 id s = (l, [], if (setV s).2 ≠ 0 then (setV s).2 else 22) := by
            rw [d]
            by_cases c1 : (setV s).2 = 0
            · have c2 : hasD l id = false := by simpa [c1] using c
              simp [c1, c2]
            · simp [c1]
          generalize (if (setV s).2 ≠ 0 then (setV s).2 else 22 : Int) = er at hM eD
          refine callK.own [] [(72, 0), (80, 1)] hM (by simp) (by simp) (by simp) (by simp) (by simp) (by simp) (by simp) (by simp) (by simp) (by simp) ?_
          simp
          refine ⟨rfl, ?_⟩
          exact .frzD [80] [4, 5, 6] (by simp) (by simp) (by simp) (by simp [eD])
        · simp only [not_or] at c
          obtain ⟨c1, c2⟩ := c
          simp at c1 c2
          have hM := replace_yes2 h.len hs (k := 3) (id := id) (s := s) c1 c2
          have eD : doM l 3 id s = (repD l id (setV s).1, [], 0) := by rw [d]; simp [c1, c2]
          refine callK.own [] [(72, 0), (80, 1)] hM (by simp) (by simp) (by simp) (by simp) (by simp) (by simp) (by simp) (by simp) (by simp) (by simp) ?_
          simp
          refine ⟨rfl, ?_⟩
          exact .frzD [80] [4, 5, 6] (by simp) (by simp) (by simp) (by simp [eD])
      · simp
        refine ⟨rfl, ?_⟩
        refine callK.plain hR (by simp) (by simp) ?_
        simp
        have hM := search_call h (k := 4) (id := id) (s := s)
        have eD : doM l 4 id s = (l, if (setV s).2 ≠ 0 then [] else if (setV s).1 = [] then [] else allM l (setV s).1, if (setV s).2 ≠ 0 then (setV s).2 else if (setV s).1 = [] then 1 else 0) := by
          rw [d]
          by_cases c1 : (setV s).2 = 0
          · by_cases c2 : (setV s).1 = []
            · simp [c1, c2]
            · simp [c1, c2]
          · simp [c1]
        generalize (if (setV s).2 ≠ 0 then [] else if (setV s).1 = [] then [] else allM l (setV s).1 : List Int) = fs at hM eD
        generalize (if (setV s).2 ≠ 0 then (setV s).2 else if (setV s).1 = [] then 1 else 0 : Int) = er at hM eD
        refine callK.own [] [(72, 0), (80, 1)] hM (by simp) (by simp) (by simp) (by simp) (by simp) (by simp) (by simp) (by simp) (by simp) (by simp) ?_
        simp
        refine ⟨rfl, ?_⟩
        exact .frzD [80] [4, 5, 6] (by simp) (by simp) (by simp) (by simp [eD])
      · simp
        refine ⟨rfl, ?_⟩
        refine callK.plain hR (by simp) (by simp) ?_
        simp
        have hM := compact_call (l := l) (k := 5) (id := id) (s := s)
        have eD : doM l 5 id s = (l, [], if (setV s).2 ≠ 0 then (setV s).2 else if (setV s).1.length = 1 then 0 else 1) := by
          rw [d]
          by_cases c1 : (setV s).2 = 0
          · by_cases c2 : (setV s).1.length = 1
            · simp [c1, c2]
            · simp [c1, c2]
          · simp [c1]
        generalize (if (setV s).2 ≠ 0 then (setV s).2 else if (setV s).1.length = 1 then 0 else 1 : Int) = er at hM eD
        refine callK.own [] [(72, 0), (80, 1)] hM (by simp) (by simp) (by simp) (by simp) (by simp) (by simp) (by simp) (by simp) (by simp) (by simp) ?_
        simp
        refine ⟨rfl, ?_⟩
        exact .frzD [80] [4, 5, 6] (by simp) (by simp) (by simp) (by simp [eD])
      · simp
        refine ⟨rfl, ?_⟩
        refine callK.plain hR (by simp) (by simp) ?_
        simp
        have hM := save_call (l := l) (k := 6) (id := id) (s := s)
        have eD : doM l 6 id s = (l, [], 0) := by rw [d]; simp
        refine callK.own [] [(72, 0), (80, 1)] hM (by simp) (by simp) (by simp) (by simp) (by simp) (by simp) (by simp) (by simp) (by simp) (by simp) ?_
        simp
        refine ⟨rfl, ?_⟩
        exact .frzD [80] [4, 5, 6] (by simp) (by simp) (by simp) (by simp [eD])
    | false =>
      have e : doM l k id s = (l, [], 1) := if_neg (by rw [hg]; simp)
      by_cases hk : k = 1 ∨ k = 2 ∨ k = 3 ∨ k = 4 ∨ k = 5 ∨ k = 6
      · cases c : rightD l with
        | false =>
          rw [c] at hR
          rcases hk with rfl | rfl | rfl | rfl | rfl | rfl
          all_goals
            simp
            refine ⟨rfl, ?_⟩
            refine callK.plain hR (by simp) (by simp) ?_
            simp
            refine .weaken (Wk.nilRd 1 [(4, .sl 80 2 0 l.length), (5, .rd 1 []), (6, .val (.int .i64 1))] (by simp)) ?_
            exact .frzD [80] [4, 5, 6] (by simp) (by simp) (by simp) (by simp [e, intsR_nil])
        | true =>
          rw [c] at hR
          have hn := (goes_not hg).resolve_left (by rw [c]; simp)
          have hk3 : k = 1 ∨ k = 2 ∨ k = 3 := by omega
          by_cases c2 : id < 0
          · rcases hk3 with rfl | rfl | rfl
            all_goals
              simp
              refine ⟨rfl, ?_⟩
              refine callK.plain hR (by simp) (by simp) ?_
              simp [c2]
              refine .weaken (Wk.nilRd 1 [(4, .sl 80 2 0 l.length), (5, .rd 1 []), (6, .val (.int .i64 1))] (by simp)) ?_
              exact .frzD [80] [4, 5, 6] (by simp) (by simp) (by simp) (by simp [e, intsR_nil])
          · have c3 : 1073741824 < id := by omega
            rcases hk3 with rfl | rfl | rfl
            all_goals
              simp
              refine ⟨rfl, ?_⟩
              refine callK.plain hR (by simp) (by simp) ?_
              simp [c2, c3]
              refine .weaken (Wk.nilRd 1 [(4, .sl 80 2 0 l.length), (5, .rd 1 []), (6, .val (.int .i64 1))] (by simp)) ?_
              exact .frzD [80] [4, 5, 6] (by simp) (by simp) (by simp) (by simp [e, intsR_nil])
      · have n1 : ¬ k = 1 := by omega
        have n2 : ¬ k = 2 := by omega
        have n3 : ¬ k = 3 := by omega
        have n4 : ¬ k = 4 := by omega
        have n5 : ¬ k = 5 := by omega
        have n6 : ¬ k = 6 := by omega
        simp [n1, n2, n3, n4, n5, n6]
        refine ⟨rfl, ?_⟩
        refine .weaken (Wk.nilRd 1 [(4, .sl 80 2 0 l.length), (5, .rd 1 []), (6, .val (.int .i64 1))] (by simp)) ?_
        exact .frzD [80] [4, 5, 6] (by simp) (by simp) (by simp) (by simp [e, intsR_nil])
end Go.Proofs.Ytipolblhiljoiaa.Sy
