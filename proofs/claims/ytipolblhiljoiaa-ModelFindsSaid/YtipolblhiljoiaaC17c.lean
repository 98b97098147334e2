/- Layer 17: may documents be: the document's answer; are they the same. -/
import Derived.Test.YtipolblhiljoiaaC17b
namespace Go.Proofs.Ytipolblhiljoiaa.Sy
open Go Go.RowKit
set_option linter.unusedVariables false
set_option linter.unusedSimpArgs false
set_option maxRecDepth 10000
set_option maxHeartbeats 4000000
def setOk (ws : List ByteArray) : Bool := ws.all mayOf && adjB ltW ws && decide (ws.length ≤ 12)
theorem adjB_step {α : Type} {lt : α → α → Bool} {l : List α} {i : Nat} (h : i < l.length) {x : α} (hx : l[i]'h = x) : adjB lt (l.take (i + 1)) = (adjB lt (l.take i) && (match i with
    | 0 => true
    | k + 1 => lt (l.getD k x) x)) := by
  subst hx
  cases i with
  | zero => simp [adjB_one, adjB]
  | succ k =>
    rw [adjB_take h]
    have : l.getD k (l[k + 1]'h) = l[k]'(by omega) := by rw [List.getD_eq_getElem?_getD, List.getElem?_eq_getElem (by omega)]; rfl
    simp only [this]
def set_inv (l : List ByteArray) (m : Nat) (st : St) : Prop := ∃ i : Nat, m = l.length - i ∧ i ≤ l.length ∧ (l.take i).all mayOf = true ∧ adjB ltW (l.take i) = true ∧
  st = ⟨35, [(3, .val (.int .i64 i)), (0, .rd 1 (strs l))], [], 64⟩
theorem rset_call {l : List ByteArray} (hl : l.length ≤ 1000000) (hs : ∀ w ∈ l, w.size ≤ maxLen) : CallOk Try.prog 55 [.rd 1 (strs l)] [] (.val (.bool (setOk l))) [] := by
  refine .of_exec Try.func55 rfl (enters_55) rfl rfl (Nat.le_of_ble_eq_true rfl) (fun n _ => rfl) ?_
  simp
  refine WPg.loopW (set_inv l) ⟨l.length, _, ?_, ⟨0, by simp, by simp, by simp, by simp [adjB], rfl⟩⟩ ?_
  · exact Wk.rn [] rfl (by simp) (by simp) (by simp)
  rintro m st ⟨i, h1, h2, h3, h4, rfl⟩
  by_cases hi : i < l.length
  · have hi' : (i : Int) < l.length := by omega
    have hwr : IntKind.i64.wrap ((i : Int) + 1) = ((i + 1 : Nat) : Int) := by rw [w64 (by omega) (by omega)]; omega
    obtain ⟨x, hx⟩ : ∃ x, l[i] = x := ⟨_, rfl⟩
    have hxm : x ∈ l := by rw [← hx]; exact List.getElem_mem hi
    have htk : l.take (i + 1) = l.take i ++ [x] := by rw [wtake_one hi, hx]
    have hall : (l.take (i + 1)).all mayOf = mayOf x := by rw [htk, List.all_append, h3]; simp
    have hadj := adjB_step (lt := ltW) hi hx
    rw [h4, Bool.true_and] at hadj
    have hM := rMay_call (hs x hxm)
    have bad1 : mayOf x = false → setOk l = false := fun e => by
      unfold setOk
      have : l.all mayOf = false := by rw [List.all_eq_false]; exact ⟨x, hxm, by rw [e]; simp⟩
      rw [this]; rfl
    have bad2 : adjB ltW (l.take (i + 1)) = false → setOk l = false := fun e => by
      unfold setOk
      rw [adjB_pre _ e]; simp
    simp [hi, hi', hx]
    refine callT.plain hM (by simp) (by simp) ?_
    cases c : mayOf x with
    | false =>
      have e := bad1 c
      simp [hi, hi', hx]
      exact ⟨rfl, .plain (by simp) (by simp [e])⟩
    | true =>
      cases i with
      | zero =>
        simp only at hadj
        simp [hi, hi', hx]
        refine ⟨rfl, l.length - (0 + 1), by omega, _, ?_, ⟨0 + 1, rfl, by omega, by rw [hall, c], hadj, rfl⟩⟩
        have hw1 : IntKind.i64.wrap 1 = 1 := rfl
        rw [hw1]
        exact Wk.rn [] rfl (by simp) (by simp) (by simp)
      | succ k =>
        have hk : k < l.length := by omega
        have hk' : (k : Int) < l.length := by omega
        have hwm : IntKind.i64.wrap (((k + 1 : Nat) : Int) - 1) = (k : Int) := by rw [w64 (by omega) (by omega)]; omega
        obtain ⟨y, hy⟩ : ∃ y, l[k] = y := ⟨_, rfl⟩
        have hg : l.getD k x = y := by rw [List.getD_eq_getElem?_getD, List.getElem?_eq_getElem hk, hy]; rfl
        simp only [hg] at hadj
        have hlt : ltW y x = Op.bytesLess y.toList x.toList := rfl
        rw [hlt] at hadj
        have hp0 : (0 : Int) < ((k + 1 : Nat) : Int) := by omega
        have hp1 : (0 : Int) ≤ ((k + 1 : Nat) : Int) := by omega
        cases c2 : Op.bytesLess y.toList x.toList with
        | false =>
          rw [c2] at hadj
          have e := bad2 hadj
          simp [hi, hi', hx, hk, hk', hy, hwm, c2, hp0, hp1, -Int.natCast_add]
          exact ⟨rfl, .plain (by simp) (by simp [e])⟩
        | true =>
          rw [c2] at hadj
          simp [hi, hi', hx, hk, hk', hy, hwm, c2, hp0, hp1, -Int.natCast_add]
          refine ⟨rfl, l.length - (k + 1 + 1), by omega, _, ?_, ⟨k + 1 + 1, rfl, by omega, by rw [hall, c], hadj, rfl⟩⟩
          rw [hwr]
          exact Wk.rn [] rfl (by simp) (by simp) (by simp)
  · obtain rfl : i = l.length := by omega
    rw [List.take_length] at h3 h4
    simp
    have e : (decide ((l.length : Int) ≤ 12)) = decide (l.length ≤ 12) := by rw [decide_eq_decide]; omega
    exact .plain (by simp) (by simp [setOk, h3, h4, e])
theorem docOk_set (d : DocW) : docOk d = (decide (0 ≤ d.id) && decide (d.id ≤ 1073741824) && setOk d.ws) := by
  unfold docOk setOk
  cases d.ws.all mayOf <;> cases adjB ltW d.ws <;> cases decide (0 ≤ d.id) <;> cases decide (d.id ≤ 1073741824) <;> simp
theorem right_adj {l : List DocW} {i : Nat} (h : adjB ltI ((l.take i).map (·.id)) = false) : rightD l = false := by
  unfold rightD
  rw [List.map_take] at h
  rw [adjB_pre _ h]; simp
def rright_inv (l : List DocW) (m : Nat) (st : St) : Prop := ∃ i : Nat, m = l.length - i ∧ i ≤ l.length ∧ (l.take i).all docOk = true ∧ adjB ltI ((l.take i).map (·.id)) = true ∧
  st = ⟨54, [(3, .val (.int .i64 i)), (0, .rd 2 (rowsD l))], [], 64⟩
theorem rright_call {l : List DocW} (h : DocsIn l) : CallOk Try.prog 36 [.rd 2 (rowsD l)] [] (.val (.bool (rightD l))) [] := by
  refine .of_exec Try.func36 rfl (enters_36) rfl rfl (Nat.le_of_ble_eq_true rfl) (fun n _ => rfl) ?_
  have hl := h.len
  simp
  refine WPg.loopW (rright_inv l) ⟨l.length, _, ?_, ⟨0, by simp, by simp, by simp, by simp [adjB], rfl⟩⟩ ?_
  · exact Wk.rn [] rfl (by simp) (by simp) (by simp)
  rintro m st ⟨i, h1, h2, h3, h4, rfl⟩
  by_cases hi : i < l.length
  · have hi' : (i : Int) < l.length := by omega
    have hne : l ≠ [] := by rintro rfl; simp at hi
    have hwr : IntKind.i64.wrap ((i : Int) + 1) = ((i + 1 : Nat) : Int) := by rw [w64 (by omega) (by omega)]; omega
    obtain ⟨x, hx⟩ : ∃ x, l[i] = x := ⟨_, rfl⟩
    have hxm : x ∈ l := by rw [← hx]; exact List.getElem_mem hi
    obtain ⟨x1, x2, x3⟩ := h.ws x hxm
    have htk : l.take (i + 1) = l.take i ++ [x] := by rw [wtake_one hi, hx]
    have hall : (l.take (i + 1)).all docOk = docOk x := by rw [htk, List.all_append, h3]; simp
    have hadj : adjB ltI ((l.take (i + 1)).map (·.id)) = (match i with
        | 0 => true
        | k + 1 => ltI (l.getD k x).id x.id) := by
      rw [List.map_take] at h4 ⊢
      rw [adjB_step (i := i) (by simpa using hi) (x := x.id) (by simp [hx]), h4, Bool.true_and]
      cases i with
      | zero => rfl
      | succ k =>
        have hk : k < l.length := by omega
        simp only
        rw [List.getD_eq_getElem?_getD, List.getD_eq_getElem?_getD, List.getElem?_map, List.getElem?_eq_getElem hk]
        rfl
    have hM := rset_call x2 x3
    have bad : docOk x = false → rightD l = false := right_false hxm
    have hw1 : IntKind.i64.wrap 1 = 1 := rfl
    cases i with
    | zero =>
      by_cases c1 : x.id < 0
      · have e := bad (by unfold docOk; rw [decide_eq_false (by omega)]; rfl)
        simp [hi, hi', hx, c1, hne]
        exact ⟨rfl, .plain (by simp) (by simp [e])⟩
      have c1' : 0 ≤ x.id := by omega
      by_cases c2 : 1073741824 < x.id
      · have e := bad (by unfold docOk; rw [decide_eq_false (show ¬ x.id ≤ 1073741824 by omega)]; simp)
        simp [hi, hi', hx, c1, c2, hne]
        exact ⟨rfl, .plain (by simp) (by simp [e])⟩
      have c2' : x.id ≤ 1073741824 := by omega
      simp [hi, hi', hx, c1, c2, hne]
      refine callT.plain hM (by simp) (by simp) ?_
      cases c : setOk x.ws with
      | false =>
        have e := bad (by rw [docOk_set, c]; simp)
        simp
        exact ⟨rfl, .plain (by simp) (by simp [e])⟩
      | true =>
        have hok : docOk x = true := by rw [docOk_set, c, decide_eq_true c1', decide_eq_true c2']; rfl
        simp
        refine ⟨rfl, l.length - (0 + 1), by omega, _, ?_, ⟨0 + 1, rfl, by omega, by rw [hall, hok], hadj, rfl⟩⟩
        rw [hw1]
        exact Wk.rn [] rfl (by simp) (by simp) (by simp)
    | succ k =>
      have hk : k < l.length := by omega
      have hk' : (k : Int) < l.length := by omega
      have hwm : IntKind.i64.wrap (((k + 1 : Nat) : Int) - 1) = (k : Int) := by rw [w64 (by omega) (by omega)]; omega
      obtain ⟨y, hy⟩ : ∃ y, l[k] = y := ⟨_, rfl⟩
      have hg : l.getD k x = y := by rw [List.getD_eq_getElem?_getD, List.getElem?_eq_getElem hk, hy]; rfl
      simp only [hg] at hadj
      have hlt : ltI y.id x.id = decide (y.id < x.id) := rfl
      rw [hlt] at hadj
      have hp0 : (0 : Int) < ((k + 1 : Nat) : Int) := by omega
      have hp1 : (0 : Int) ≤ ((k + 1 : Nat) : Int) := by omega
      by_cases c1 : x.id < 0
      · have e := bad (by unfold docOk; rw [decide_eq_false (by omega)]; rfl)
        simp [hi, hi', hx, c1, hne, hk, hk', hy, hwm, hp0, hp1, -Int.natCast_add]
        exact ⟨rfl, .plain (by simp) (by simp [e])⟩
      have c1' : 0 ≤ x.id := by omega
      by_cases c2 : 1073741824 < x.id
      · have e := bad (by unfold docOk; rw [decide_eq_false (show ¬ x.id ≤ 1073741824 by omega)]; simp)
        simp [hi, hi', hx, c1, c2, hne, hk, hk', hy, hwm, hp0, hp1, -Int.natCast_add]
        exact ⟨rfl, .plain (by simp) (by simp [e])⟩
      have c2' : x.id ≤ 1073741824 := by omega
      by_cases c3 : y.id < x.id
      · have c3' : ¬ x.id ≤ y.id := by omega
        rw [decide_eq_true c3] at hadj
        simp [hi, hi', hx, c1, c2, c3', hne, hk, hk', hy, hwm, hp0, hp1, -Int.natCast_add]
        refine callT.plain hM (by simp) (by simp) ?_
        cases c : setOk x.ws with
        | false =>
          have e := bad (by rw [docOk_set, c]; simp)
          simp [-Int.natCast_add]
          exact ⟨rfl, .plain (by simp) (by simp [e])⟩
        | true =>
          have hok : docOk x = true := by rw [docOk_set, c, decide_eq_true c1', decide_eq_true c2']; rfl
          simp [-Int.natCast_add]
          refine ⟨rfl, l.length - (k + 1 + 1), by omega, _, ?_, ⟨k + 1 + 1, rfl, by omega, by rw [hall, hok], hadj, rfl⟩⟩
          rw [hwr]
          exact Wk.rn [] rfl (by simp) (by simp) (by simp)
      · have c3' : x.id ≤ y.id := by omega
        rw [decide_eq_false c3] at hadj
        have e := right_adj hadj
        simp [hi, hi', hx, c1, c2, c3', hne, hk, hk', hy, hwm, hp0, hp1, -Int.natCast_add]
        exact ⟨rfl, .plain (by simp) (by simp [e])⟩
  · obtain rfl : i = l.length := by omega
    rw [List.take_length] at h3 h4
    simp
    have e : (decide ((l.length : Int) ≤ 40)) = decide (l.length ≤ 40) := by rw [decide_eq_decide]; omega
    exact .plain (by simp) (by simp [rightD, h3, h4, e])
end Go.Proofs.Ytipolblhiljoiaa.Sy
