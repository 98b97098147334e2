/- Layer 17: the document's Find, without, with. -/
import Derived.Test.YtipolblhiljoiaaC17e
import Derived.Test.YtipolblhiljoiaaSyGiv
namespace Go.Proofs.Ytipolblhiljoiaa.Sy
open Go Go.RowKit
set_option linter.unusedVariables false
set_option linter.unusedSimpArgs false
set_option maxRecDepth 10000
set_option maxHeartbeats 4000000
def rfind_inv (l : List DocW) (id : Int) (m : Nat) (st : St) : Prop := ∃ i : Nat, m = l.length - i ∧ i ≤ l.length ∧ (l.take i).any (fun d => decide (d.id = id)) = false ∧
  st = ⟨29, [(6, .val (.int .i64 i)), (4, .ref 64 2 0 0), (1, .val (.int .i64 id)), (0, .rd 2 (rowsD l))], [(64, ⟨41, 2, [[.val (.int .i64 0), .val (.slice none 0 0)]], .cells⟩)], 72⟩
theorem rFind_call {l : List DocW} (h : DocsIn l) {id : Int} : CallOk Try.prog 56 [.rd 2 (rowsD l), .val (.int .i64 id)] [] (.tup [.agg (docR (getD l id).1), .val (.bool (getD l id).2)]) [] := by
  refine .of_exec Try.func56 rfl (enters_56) rfl rfl (Nat.le_of_ble_eq_true rfl) (fun n _ => rfl) ?_
  have hl := h.len
  simp
  refine WPg.loopW (rfind_inv l id) ⟨l.length, _, ?_, ⟨0, by simp, by simp, by simp, rfl⟩⟩ ?_
  · exact Wk.rn [(64, 64)] rfl (by simp) (by simp) (by simp)
  rintro m st ⟨i, h1, h2, h3, rfl⟩
  by_cases hi : i < l.length
  · have hi' : (i : Int) < l.length := by omega
    have hne : l ≠ [] := by rintro rfl; simp at hi
    have hwr : IntKind.i64.wrap ((i : Int) + 1) = ((i + 1 : Nat) : Int) := by rw [w64 (by omega) (by omega)]; omega
    obtain ⟨x, hx⟩ : ∃ x, l[i] = x := ⟨_, rfl⟩
    have hxm : x ∈ l := by rw [← hx]; exact List.getElem_mem hi
    obtain ⟨x1, x2, x3⟩ := h.ws x hxm
    have b1 : x.ws.length ≤ 140737488355328 := by omega
    have b2 : x.ws.length * 16 ≤ 140737488355328 := by omega
    by_cases c : x.id = id
    · have e1 : hasD l id = true := List.any_eq_true.2 ⟨x, hxm, by simp [c]⟩
      have e2 : l.findIdx (fun d => decide (d.id = id)) = i := find_first hi h3 (by rw [hx]; simp [c])
      have e3 : getD l id = (x, true) := by
        unfold getD findD
        rw [if_pos e1, if_pos e1, e2, Int.toNat_natCast, List.getD_eq_getElem?_getD, List.getElem?_eq_getElem hi, hx]; rfl
      simp [hi, hi', hx, hne, c, b1, b2]
      have hfz : Wk 64 (⟨29, [(5, .val (.bool true)), (4, .ref 64 2 0 0)], [(64, ⟨41, 2, [[.val (.int .i64 id), .sl 72 1 0 x.ws.length]], .cells⟩), (72, strO x.ws)], 80⟩ : St)
          ⟨29, [(5, .val (.bool true)), (4, .ref 64 2 0 0)], [(64, ⟨41, 2, [[.val (.int .i64 id), .rd 1 (strs x.ws)]], .cells⟩)], 80⟩ := Wk.frzN [72] rfl rfl (by simp) (by simp) (by simp)
      refine .wk _ (Wk.trans ?_ hfz) (by simp) (by simp [e3, c])
      exact Wk.rn [(64, 64), (208, 72)] rfl (by simp) (by simp) (by simp)
    · simp [hi, hi', hx, hne, c]
      refine ⟨l.length - (i + 1), by omega, _, ?_, ⟨i + 1, rfl, by omega, ?_, rfl⟩⟩
      · rw [hwr]
        exact Wk.rn [(64, 64)] rfl (by simp) (by simp) (by simp)
      · rw [wtake_one hi, List.any_append, h3, hx]; simp [c]
  · obtain rfl : i = l.length := by omega
    rw [List.take_length] at h3
    have e2 : getD l id = (⟨0, []⟩, false) := by unfold getD hasD; rw [h3]; rfl
    simp
    exact .wk _ (Wk.nilRdB 1 [64]) (by simp) (by simp [e2, strs_nil])
theorem docsIn_take {l : List DocW} (h : DocsIn l) (n : Nat) : DocsIn (l.take n) := ⟨Nat.le_trans (List.length_take_le' n l) h.len, fun d hd => h.ws d (List.mem_of_mem_take hd)⟩
theorem docsIn_drop {l : List DocW} (h : DocsIn l) (n : Nat) : DocsIn (l.drop n) := ⟨by rw [List.length_drop]; have := h.len; omega, fun d hd => h.ws d (List.mem_of_mem_drop hd)⟩
theorem docsIn_del {l : List DocW} (h : DocsIn l) (id : Int) : DocsIn (delD l id) := ⟨Nat.le_trans (List.length_filter_le _ _) h.len, fun d hd => h.ws d (List.mem_filter.1 hd).1⟩
def rwo_inv (l : List DocW) (id : Int) (m : Nat) (st : St) : Prop := ∃ i : Nat, m = l.length - i ∧ i ≤ l.length ∧
  st = ⟨29, [(6, .val (.int .i64 i)), (5, .sl 64 2 0 (delD (l.take i) id).length), (1, .val (.int .i64 id)), (0, .rd 2 (rowsD l))], [(64, docsO (delD (l.take i) id))], 72⟩
theorem rWithout_call {l : List DocW} (h : DocsIn l) {id : Int} : CallOk Try.prog 57 [.rd 2 (rowsD l), .val (.int .i64 id)] [] (.rd 2 (rowsD (delD l id))) [] := by
  refine .of_exec Try.func57 rfl (enters_57) rfl rfl (Nat.le_of_ble_eq_true rfl) (fun n _ => rfl) ?_
  have hl := h.len
  simp
  refine WPg.loopC (rwo_inv l id) ⟨l.length, _, ?_, ⟨0, by simp, by simp, rfl⟩⟩ ?_
  · refine (Wk.nil [5] [] 41 2).trans ?_
    exact Wk.rn [(88, 64)] rfl (by simp) (by simp [delD]) (by simp [delD, rowsN_nil])
  rintro m st ⟨i, h1, h2, rfl⟩
  by_cases hi : i < l.length
  · refine .run ?_
    have hi' : (i : Int) < l.length := by omega
    have hne : l ≠ [] := by rintro rfl; simp at hi
    have hwr : IntKind.i64.wrap ((i : Int) + 1) = ((i + 1 : Nat) : Int) := by rw [w64 (by omega) (by omega)]; omega
    obtain ⟨x, hx⟩ : ∃ x, l[i] = x := ⟨_, rfl⟩
    have htk : l.take (i + 1) = l.take i ++ [x] := by rw [wtake_one hi, hx]
    have hlen : (delD (l.take i) id).length ≤ i := Nat.le_trans (List.length_filter_le _ _) (by simp; omega)
    by_cases c : x.id = id
    · have e : delD (l.take (i + 1)) id = delD (l.take i) id := by rw [htk]; simp [delD, c]
      simp [hi, hi', hx, hne, c]
      refine ⟨l.length - (i + 1), by omega, _, ?_, ⟨i + 1, rfl, by omega, rfl⟩⟩
      rw [hwr, e]
      exact Wk.rn [(64, 64)] rfl (by simp) (by simp) (by simp)
    · have e : delD (l.take (i + 1)) id = delD (l.take i) id ++ [x] := by rw [htk]; simp [delD, c]
      generalize delD (l.take i) id = out at *
      have m1 : 1 ≤ maxLen := by decide
      have m2 : out.length ≤ 140737488355327 := by omega
      have m3 : (out.length + 1) * 32 ≤ 140737488355328 := by omega
      simp [hi, hi', hx, hne, c, m1, m2, m3]
      refine ⟨l.length - (i + 1), by omega, _, ?_, ⟨i + 1, rfl, by omega, rfl⟩⟩
      rw [hwr, e]
      exact Wk.rn [(208, 64)] rfl (by simp) (by simp) (by simp)
  · obtain rfl : i = l.length := by omega
    have hO := rOwn_call (docsIn_del h id)
    rw [List.take_length]
    refine WPg.weak (Wk.frzN [64] (st' := ⟨29, [(5, .rd 2 (rowsD (delD l id))), (6, .val (.int .i64 l.length)), (0, .rd 2 (rowsD l))], [], 72⟩) rfl rfl (by simp) (by simp) (by simp)) (.run ?_)
    simp
    refine .plain hO (by simp) (by simp) ?_
    simp
    exact .plain (by simp) (by simp)
/-- Where a document belongs, from behind. -/
def downD (l : List DocW) (id : Int) : Nat → Nat
  | 0 => 0
  | n + 1 => if id < (l.getD n ⟨0, []⟩).id then downD l id n else n + 1
theorem downD_le (l : List DocW) (id : Int) : ∀ n, downD l id n ≤ n
  | 0 => Nat.le_refl _
  | n + 1 => by
    rw [downD]
    split
    · exact Nat.le_succ_of_le (downD_le l id n)
    · exact Nat.le_refl _
def withD (l : List DocW) (d : DocW) : List DocW := l.take (downD l d.id l.length) ++ [d] ++ l.drop (downD l d.id l.length)
def rwith_inv (l : List DocW) (d : DocW) (m : Nat) (st : St) : Prop := m ≤ l.length ∧ downD l d.id m = downD l d.id l.length ∧
  st = ⟨35, [(5, .val (.int .i64 m)), (3, .ref 64 2 0 0), (0, .rd 2 (rowsD l))], [(64, ⟨41, 2, [docR d], .cells⟩)], 72⟩
theorem rWith_call {l : List DocW} (h : DocsIn l) {d : DocW} : CallOk Try.prog 58 [.rd 2 (rowsD l), .agg (docR d)] [] (.rd 2 (rowsD (withD l d))) [] := by
  refine .of_exec Try.func58 rfl (enters_58) rfl rfl (Nat.le_of_ble_eq_true rfl) (fun n _ => rfl) ?_
  have hl := h.len
  simp
  refine WPg.loopW (rwith_inv l d) ⟨l.length, _, ?_, ⟨by simp, rfl, rfl⟩⟩ ?_
  · exact Wk.rn [(64, 64)] rfl (by simp) (by simp) (by simp)
  rintro m st ⟨h1, h2, rfl⟩
  have hO1 := rOwnO_call (docsIn_take h m)
  have hO2 := rOwnO_call (docsIn_drop h m)
  rw [List.length_take, Nat.min_eq_left h1] at hO1
  rw [List.length_drop] at hO2
  have m1 : 1 ≤ maxLen := by decide
  have b2 : m ≤ 140737488355327 := by omega
  have b3 : (m + 1) * 32 ≤ 140737488355328 := by omega
  have b4 : m + 1 + (l.length - m) ≤ 140737488355328 := by omega
  have b5 : (m + 1 + (l.length - m)) * 32 ≤ 140737488355328 := by omega
  cases m with
  | zero =>
    rw [downD] at h2
    have e0 : rowsD (List.take 0 l) = [] := rfl
    rw [e0] at hO1
    simp
    refine ⟨rfl, callT.own [] [] hO1 (by simp) (by simp) (by simp) (by simp) (by simp) (by simp) (by simp) (by simp) (by simp) (by simp) ?_⟩
    have e1 : rowsD (List.drop 0 l) = rowsD l := rfl
    rw [e1] at hO2
    have c4 : 1 + l.length ≤ 140737488355328 := by omega
    have c5 : (1 + l.length) * 32 ≤ 140737488355328 := by omega
    have ew : withD l d = d :: l := by unfold withD; rw [← h2]; rfl
    simp [m1]
    refine callT.own [] [] hO2 (by simp) (by simp) (by simp) (by simp) (by simp) (by simp) (by simp) (by simp) (by simp) (by simp) ?_
    simp [c4, c5]
    have hlen : 1 + l.length = (withD l d).length := by rw [ew]; simp; omega
    rw [show ([.val (.int .i64 d.id), .rd 1 (strs d.ws)] :: rowsN docR l) = rowsN docR (withD l d) from by rw [ew]; rfl, hlen]
    exact ⟨rfl, .frzD [264] [4] (by simp) (by simp) (by simp) (by simp)⟩
  | succ k =>
    have hk : k < l.length := by omega
    have hk' : (k : Int) < l.length := by omega
    have hne : l ≠ [] := by rintro rfl; simp at hk
    have hwr : IntKind.i64.wrap (((k + 1 : Nat) : Int) - 1) = (k : Int) := by rw [w64 (by omega) (by omega)]; omega
    have hp0 : (0 : Int) < ((k + 1 : Nat) : Int) := by omega
    have hp1 : (0 : Int) ≤ ((k + 1 : Nat) : Int) := by omega
    have hp2 : ((k + 1 : Nat) : Int) ≤ l.length := by omega
    obtain ⟨x, hx⟩ : ∃ x, l[k] = x := ⟨_, rfl⟩
    have hg : l.getD k ⟨0, []⟩ = x := by rw [List.getD_eq_getElem?_getD, List.getElem?_eq_getElem hk, hx]; rfl
    rw [downD, hg] at h2
    by_cases c : d.id < x.id
    · rw [if_pos c] at h2
      simp [hk, hk', hx, hwr, c, hne, hp0, hp1, hp2, -Int.natCast_add]
      refine ⟨rfl, k, by omega, _, ?_, ⟨by omega, h2, rfl⟩⟩
      exact Wk.rn [(64, 64)] rfl (by simp) (by simp) (by simp)
    · rw [if_neg c] at h2
      simp [hk, hk', hx, hwr, c, hne, hp0, hp1, hp2, -Int.natCast_add]
      refine ⟨rfl, callT.own [] [] hO1 (by simp) (by simp) (by simp) (by simp) (by simp) (by simp) (by simp) (by simp) (by simp) (by simp) ?_⟩
      have hmin : min (k + 1) l.length = k + 1 := by omega
      have htt : List.take (k + 1) (List.take (k + 1) l) = List.take (k + 1) l := by rw [List.take_take, Nat.min_self]
      have ew : withD l d = List.take (k + 1) l ++ [d] ++ List.drop (k + 1) l := by unfold withD; rw [← h2]
      have hlen : (withD l d).length = k + 1 + 1 + (l.length - (k + 1)) := by rw [ew]; simp; omega
      have d5 : k ≤ 140737488355326 := by omega
      simp [m1, b2, b3, hk, hk', hne, hp0, hp1, hp2, hmin, htt, d5, -Int.natCast_add]
      refine callT.own [] [] hO2 (by simp) (by simp) (by simp) (by simp) (by simp) (by simp) (by simp) (by simp) (by simp) (by simp) ?_
      have d6 : l.length ≤ l.length - (k + 1) + (k + 1) := by omega
      have e : List.take (k + 1 + 1) (List.take (k + 1) l ++ [(⟨d.id, d.ws⟩ : DocW)]) ++ List.take (l.length - (k + 1)) (List.drop (k + 1) l) = withD l d := by
        rw [ew, List.take_of_length_le (l := List.take (k + 1) l ++ [(⟨d.id, d.ws⟩ : DocW)]) (by simp; omega), List.take_of_length_le (l := List.drop (k + 1) l) (by simp)]
      simp [b4, b5, hmin, d6, -Int.natCast_add]
      rw [e, ← hlen]
      exact ⟨rfl, .frzD [264] [4] (by simp) (by simp) (by simp) (by simp)⟩
end Go.Proofs.Ytipolblhiljoiaa.Sy
