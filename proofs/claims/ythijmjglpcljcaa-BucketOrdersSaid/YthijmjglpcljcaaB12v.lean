/- Layer 12: All, the document's. -/
import Derived.Test.YthijmjglpcljcaaB12e
import Derived.Test.YthijmjglpcljcaaB12s
namespace Go.Proofs.Ythijmjglpcljcaa.Sy
open Go Go.RowKit
set_option linter.unusedVariables false
set_option linter.unusedSimpArgs false
set_option maxRecDepth 10000
set_option maxHeartbeats 4000000
def ltB (a b : ByteArray) : Bool := Op.bytesLess a.toList b.toList
def gtB (a b : ByteArray) : Bool := !ltB a b && !decide (a = b)
/-- Where a label goes into a list by labels, looked for from the end. -/
def posP (l : Prs) (lab : ByteArray) : Nat → Nat
  | 0 => 0
  | n + 1 => if gtB (l.getD n default).1 lab then posP l lab n else n + 1
def insP (l : Prs) (p : ByteArray × ByteArray) : Prs := l.take (posP l p.1 l.length) ++ p :: l.drop (posP l p.1 l.length)
def usedP (bs : List Bkt) : Prs := (bs.filter fun b => decide (b.st = 1)).map fun b => (b.lab, b.cell)
def allS (s : Sto) : Prs := if rightB s then (usedP s.bs).foldl insP [] else []
def upto (bs : List Bkt) (i : Nat) : Prs := (usedP (bs.take i)).foldl insP []
def refall_inv (s : Sto) (m : Nat) (st : St) : Prop := ∃ i : Nat, m = s.bs.length - i ∧ i ≤ s.bs.length ∧
  st = ⟨58, [(4, .val (.int .i64 i)), (3, .rd 2 (rowsP (upto s.bs i))), (1, .ref 64 3 0 0)], [(64, ⟨31, 3, [[.rd 3 (rowsB s.bs), .val (.int .i64 s.many), .val (.int .i64 s.gone)]], .cells⟩)], 72⟩
def refall_in (s : Sto) (i : Nat) (b : Bkt) (m : Nat) (st : St) : Prop := ∃ n : Nat, m = n ∧ n ≤ (upto s.bs i).length ∧ posP (upto s.bs i) b.lab (upto s.bs i).length = posP (upto s.bs i) b.lab n ∧
  st = ⟨58, [(6, .val (.int .i64 n)), (5, .ref 72 3 0 0), (4, .val (.int .i64 i)), (3, .rd 2 (rowsP (upto s.bs i))), (1, .ref 64 3 0 0)], [(64, ⟨31, 3, [[.rd 3 (rowsB s.bs), .val (.int .i64 s.many), .val (.int .i64 s.gone)]], .cells⟩), (72, ⟨25, 3, [[.val (.int .i64 1), .val (.string b.lab), .val (.string b.cell)]], .cells⟩)], 80⟩
@[simp] theorem rowsP_cons (a b : ByteArray) (l : Prs) : [PV.val (.string a), PV.val (.string b)] :: rowsP l = rowsP ((a, b) :: l) := rfl
theorem rowsP_at (l : Prs) (k j : Nat) : ∃ v : Option Value, ((rowsP l)[k]?.getD [])[j]?.getD .un = (match v with | some v => .val v | none => .un) := by
  cases h : (rowsP l)[k]? with
  | none => exact ⟨none, by simp⟩
  | some r =>
    obtain ⟨p, _, rfl⟩ := List.mem_map.1 (List.mem_of_getElem? h)
    match j with
    | 0 => exact ⟨some _, rfl⟩
    | 1 => exact ⟨some _, rfl⟩
    | j + 2 => exact ⟨none, rfl⟩
@[simp] theorem names0_rowsP (l : Prs) (k j : Nat) : names0 (((rowsP l)[k]?.getD [])[j]?.getD .un) = [] := by
  obtain ⟨v, h⟩ := rowsP_at l k j
  rw [h]
  cases v <;> rfl
theorem posP_le (l : Prs) (lab : ByteArray) : ∀ n, posP l lab n ≤ n
  | 0 => Nat.le_refl _
  | n + 1 => by
    unfold posP
    split
    · exact Nat.le_succ_of_le (posP_le l lab n)
    · exact Nat.le_refl _
theorem upto_succ {bs : List Bkt} {i : Nat} {b : Bkt} (hi : i < bs.length) (hb : bs[i] = b) : upto bs (i + 1) = if b.st = 1 then insP (upto bs i) (b.lab, b.cell) else upto bs i := by
  unfold upto usedP
  rw [List.take_succ_eq_append_getElem hi, hb]
  by_cases h : b.st = 1
  · simp [h]
  · simp [h]
theorem insP_length (l : Prs) (p : ByteArray × ByteArray) : (insP l p).length = l.length + 1 := by
  have := posP_le l p.1 l.length
  simp only [insP, List.length_append, List.length_cons, List.length_take, List.length_drop]
  omega
theorem upto_le (bs : List Bkt) : ∀ i, i ≤ bs.length → (upto bs i).length ≤ i
  | 0, _ => by simp [upto, usedP]
  | i + 1, h => by
    have := upto_le bs i (by omega)
    rw [upto_succ (by omega) rfl]
    split
    · rw [insP_length]; omega
    · omega
theorem refall_call (s : Sto) (hl : s.bs.length < 1000000) : CallOk Try.prog 22 [stoP s] [] (.rd 2 (rowsP (allS s))) [] := by
  refine .of_exec Try.func22 rfl (enters_22) rfl rfl (Nat.le_of_ble_eq_true rfl) (fun n _ => rfl) ?_
  simp
  refine .plain (refright_call s (by omega)) (by simp) (by simp) ?_
  by_cases h : rightB s = true
  · simp [h]
    refine WPg.loopW (refall_inv s) ⟨s.bs.length, _, ?_, ⟨0, by simp, by simp, rfl⟩⟩ ?_
    · exact (Wk.nilRd 2 [(1, .ref 64 3 0 0), (3, .rd 2 []), (4, .val (.int .i64 0))] (by simp)).trans (Wk.rn [(64, 64)] rfl (by simp) (by simp [upto, usedP]) (by simp))
    rintro m st ⟨i, g1, g2, rfl⟩
    by_cases hi : i < s.bs.length
    · have hi' : (i : Int) < s.bs.length := by omega
      have hw : IntKind.i64.wrap ((i : Int) + 1) = ((i + 1 : Nat) : Int) := by rw [w64 (by omega) (by omega)]; omega
      obtain ⟨b, hb⟩ : ∃ b, s.bs[i] = b := ⟨_, rfl⟩
      by_cases c : b.st = 1
      · simp [hi, hi', hb, c, rowB]
        refine WPg.loopW (refall_in s i b) ⟨(upto s.bs i).length, _, ?_, ⟨(upto s.bs i).length, rfl, Nat.le_refl _, rfl, rfl⟩⟩ ?_
        · exact Wk.rn [(64, 64), (152, 72)] rfl (by simp) (by simp) (by simp)
        rintro m' st ⟨n, k1, k2, k3, rfl⟩
        have m1 : 1 ≤ maxLen := by decide
        have hlu : (upto s.bs i).length ≤ i := upto_le s.bs i g2
        cases n with
        | zero =>
          have hins : upto s.bs (i + 1) = (b.lab, b.cell) :: upto s.bs i := by
            rw [upto_succ hi hb, if_pos c, insP]
            simp only [k3]; rfl
          have ht : List.take (1 + (upto s.bs i).length) ((b.lab, b.cell) :: upto s.bs i) = (b.lab, b.cell) :: upto s.bs i := List.take_of_length_le (by simp; omega)
          simp [m1]
          refine ⟨rfl, ⟨by omega, by omega⟩, fun _ _ => ⟨rfl, s.bs.length - (i + 1), by omega, _, ?_, ⟨i + 1, rfl, by omega, rfl⟩⟩⟩
          rw [hw]
          refine Wk.trans (Wk.frz [296] (st' := ⟨58, [(4, .val (.int .i64 (i + 1 : Nat))), (3, .rd 2 (rowsP (upto s.bs (i + 1)))), (1, .ref 64 3 0 0)], [(64, ⟨31, 3, [[.rd 3 (rowsB s.bs), .val (.int .i64 s.many), .val (.int .i64 s.gone)]], .cells⟩)], _⟩) rfl rfl (by simp) (by simp [hins, ht, Nat.add_comm]) (by simp)) (Wk.rn [(64, 64)] rfl (by simp) (by simp) (by simp))
        | succ n =>
          have hn : n < (upto s.bs i).length := by omega
          have hwn : IntKind.i64.wrap (n : Int) = n := w64 (by omega) (by omega)
          cases c5 : Op.bytesLess (upto s.bs i)[n].1.toList b.lab.toList with
          | true =>
            have hge : gtB (upto s.bs i)[n].1 b.lab = false := by simp [gtB, ltB, c5]
            have hpos : posP (upto s.bs i) b.lab (upto s.bs i).length = n + 1 := by
              rw [k3]; unfold posP
              rw [List.getD_eq_getElem?_getD, List.getElem?_eq_getElem hn, Option.getD_some, hge]; rfl
            have hins : upto s.bs (i + 1) = (upto s.bs i).take (n + 1) ++ (b.lab, b.cell) :: (upto s.bs i).drop (n + 1) := by
              rw [upto_succ hi hb, if_pos c, insP, hpos]
            have hmin : min (n + 1) (upto s.bs i).length = n + 1 := by omega
            have t1 : List.take (n + 1 + 1) (List.take (n + 1) (List.take (n + 1) (upto s.bs i)) ++ [(b.lab, b.cell)]) = List.take (n + 1) (upto s.bs i) ++ [(b.lab, b.cell)] := by
              rw [List.take_take, Nat.min_self]
              exact List.take_of_length_le (by simp; omega)
            have t2 : List.take (n + 1 + 1 + ((upto s.bs i).length - (n + 1))) (List.take (n + 1) (upto s.bs i) ++ (b.lab, b.cell) :: List.drop (n + 1) (upto s.bs i)) = List.take (n + 1) (upto s.bs i) ++ (b.lab, b.cell) :: List.drop (n + 1) (upto s.bs i) := List.take_of_length_le (by simp; omega)
            simp [hn, hwn, c5, m1, hmin, t1]
            have b1 : (0 : Int) ≤ (n : Int) + 1 ∧ (n : Int) + 1 ≤ (upto s.bs i).length := by omega
            have b2 : n ≤ 140737488355327 ∧ (n + 1) * 32 ≤ 140737488355328 := by omega
            have b3 : n ≤ 140737488355326 ∧ (n + 1 + 1) * 32 ≤ 140737488355328 := by omega
            have b4 : n + 1 + 1 + ((upto s.bs i).length - (n + 1)) ≤ 140737488355328 ∧ (n + 1 + 1 + ((upto s.bs i).length - (n + 1))) * 32 ≤ 140737488355328 := by omega
            refine ⟨rfl, b1, fun _ _ => ⟨b2, fun _ _ => ⟨b3, fun _ _ => ⟨b1, fun _ _ => ⟨b4, fun _ _ => ?_⟩⟩⟩⟩⟩
            refine ⟨rfl, ?_⟩
            refine ⟨s.bs.length - (i + 1), by omega, _, ?_, ⟨i + 1, rfl, by omega, rfl⟩⟩
            rw [hw]
            refine Wk.trans (Wk.frz [296] (st' := ⟨58, [(4, .val (.int .i64 (i + 1 : Nat))), (3, .rd 2 (rowsP (upto s.bs (i + 1)))), (1, .ref 64 3 0 0)], [(64, ⟨31, 3, [[.rd 3 (rowsB s.bs), .val (.int .i64 s.many), .val (.int .i64 s.gone)]], .cells⟩)], _⟩) rfl rfl (by simp) (by simp [hins, t1, t2]; omega) (by simp)) (Wk.rn [(64, 64)] rfl (by simp) (by simp) (by simp))
          | false =>
            by_cases c6 : (upto s.bs i)[n].1 = b.lab
            · have hge : gtB (upto s.bs i)[n].1 b.lab = false := by simp [gtB, ltB, c5, c6]
              have hpos : posP (upto s.bs i) b.lab (upto s.bs i).length = n + 1 := by
                rw [k3]; unfold posP
                rw [List.getD_eq_getElem?_getD, List.getElem?_eq_getElem hn, Option.getD_some, hge]; rfl
              have hins : upto s.bs (i + 1) = (upto s.bs i).take (n + 1) ++ (b.lab, b.cell) :: (upto s.bs i).drop (n + 1) := by
                rw [upto_succ hi hb, if_pos c, insP, hpos]
              have hmin : min (n + 1) (upto s.bs i).length = n + 1 := by omega
              have t1 : List.take (n + 1 + 1) (List.take (n + 1) (List.take (n + 1) (upto s.bs i)) ++ [(b.lab, b.cell)]) = List.take (n + 1) (upto s.bs i) ++ [(b.lab, b.cell)] := by
                rw [List.take_take, Nat.min_self]
                exact List.take_of_length_le (by simp; omega)
              have t2 : List.take (n + 1 + 1 + ((upto s.bs i).length - (n + 1))) (List.take (n + 1) (upto s.bs i) ++ (b.lab, b.cell) :: List.drop (n + 1) (upto s.bs i)) = List.take (n + 1) (upto s.bs i) ++ (b.lab, b.cell) :: List.drop (n + 1) (upto s.bs i) := List.take_of_length_le (by simp; omega)
              simp [hn, hwn, c5, c6, m1, hmin, t1]
              have b1 : (0 : Int) ≤ (n : Int) + 1 ∧ (n : Int) + 1 ≤ (upto s.bs i).length := by omega
              have b2 : n ≤ 140737488355327 ∧ (n + 1) * 32 ≤ 140737488355328 := by omega
              have b3 : n ≤ 140737488355326 ∧ (n + 1 + 1) * 32 ≤ 140737488355328 := by omega
              have b4 : n + 1 + 1 + ((upto s.bs i).length - (n + 1)) ≤ 140737488355328 ∧ (n + 1 + 1 + ((upto s.bs i).length - (n + 1))) * 32 ≤ 140737488355328 := by omega
              refine ⟨rfl, b1, fun _ _ => ⟨b2, fun _ _ => ⟨b3, fun _ _ => ⟨b1, fun _ _ => ⟨b4, fun _ _ => ?_⟩⟩⟩⟩⟩
              refine ⟨rfl, ?_⟩
              refine ⟨s.bs.length - (i + 1), by omega, _, ?_, ⟨i + 1, rfl, by omega, rfl⟩⟩
              rw [hw]
              refine Wk.trans (Wk.frz [296] (st' := ⟨58, [(4, .val (.int .i64 (i + 1 : Nat))), (3, .rd 2 (rowsP (upto s.bs (i + 1)))), (1, .ref 64 3 0 0)], [(64, ⟨31, 3, [[.rd 3 (rowsB s.bs), .val (.int .i64 s.many), .val (.int .i64 s.gone)]], .cells⟩)], _⟩) rfl rfl (by simp) (by simp [hins, t1, t2]; omega) (by simp)) (Wk.rn [(64, 64)] rfl (by simp) (by simp) (by simp))
            · have hgt : gtB (upto s.bs i)[n].1 b.lab = true := by simp [gtB, ltB, c5, c6]
              have hp : posP (upto s.bs i) b.lab (n + 1) = posP (upto s.bs i) b.lab n := by
                conv => lhs; unfold posP
                rw [List.getD_eq_getElem?_getD, List.getElem?_eq_getElem hn, Option.getD_some, hgt]; rfl
              simp [hn, hwn, c5, c6]
              refine ⟨rfl, n, by omega, _, ?_, ⟨n, rfl, by omega, by rw [k3, hp], rfl⟩⟩
              exact Wk.rn [(64, 64), (72, 72)] rfl (by simp) (by simp) (by simp)
      · have hins : upto s.bs (i + 1) = upto s.bs i := by rw [upto_succ hi hb, if_neg c]
        simp [hi, hi', hb, c, rowB]
        refine ⟨s.bs.length - (i + 1), by omega, _, ?_, ⟨i + 1, rfl, by omega, rfl⟩⟩
        rw [hw, hins]
        exact Wk.rn [(64, 64)] rfl (by simp) (by simp) (by simp)
    · obtain rfl : i = s.bs.length := by omega
      have e : upto s.bs s.bs.length = allS s := by unfold allS upto; rw [if_pos h, List.take_length]
      simp
      exact .plain (by simp) (by simp [e])
  · simp [h]
    exact .wk _ (Wk.nilRd 2 [(2, .rd 2 [])] (by simp)) (by simp) (by simp [allS, h])
end Go.Proofs.Ythijmjglpcljcaa.Sy
