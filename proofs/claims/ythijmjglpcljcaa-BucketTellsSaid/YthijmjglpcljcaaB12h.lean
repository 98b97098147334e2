/- Layer 12: set. -/
import Derived.Test.YthijmjglpcljcaaB12g
namespace Go.Proofs.Ythijmjglpcljcaa.Sy
open Go Go.RowKit
set_option linter.unusedVariables false
set_option linter.unusedSimpArgs false
set_option maxRecDepth 10000
set_option maxHeartbeats 4000000
/-- A label is set at its room. -/
def setS (s : Sto) (lab cell : ByteArray) : Sto :=
  let k := (findB s.bs lab).2.toNat
  ⟨s.bs.set k ⟨1, lab, cell⟩, s.many + 1, if (s.bs.getD k .free).st = 2 then s.gone - 1 else s.gone⟩
def small (n : Int) : Prop := -1000000 ≤ n ∧ n ≤ 1000000
theorem set_own {s : Sto} {lab cell : ByteArray} {k : Nat} (hl : s.bs.length < 1000000) (hm : small s.many) (hg : small s.gone) (hk : k < s.bs.length) (hr : (findB s.bs lab).2 = k) :
    CallOk Try.prog 42 [ownP s.bs.length s.many s.gone, .val (.string lab), .val (.string cell)] [(0, ⟨25, 3, rowsB s.bs, .cells⟩)]
      (ownP s.bs.length (setS s lab cell).many (setS s lab cell).gone) [(0, ⟨25, 3, rowsB (setS s lab cell).bs, .cells⟩)] := by
  refine .of_exec Try.func42 rfl (enters_42) rfl rfl (Nat.le_of_ble_eq_true rfl) (fun n h => by simp; omega) ?_
  simp
  refine .lent [0] (find_call s lab (by omega)) (by simp) (by simp) (by simp) (by simp) (by simp) (by simp) ?_
  obtain ⟨b, hb⟩ : ∃ b, s.bs[k] = b := ⟨_, rfl⟩
  have w1 : IntKind.i64.wrap (s.many + 1) = s.many + 1 := by unfold small at hm; exact w64 (by omega) (by omega)
  have w2 : IntKind.i64.wrap (s.gone - 1) = s.gone - 1 := by unfold small at hg; exact w64 (by omega) (by omega)
  have hk' : (k : Int) < s.bs.length := by omega
  by_cases c2 : b.st = 2
  · simp [hr, hk, hk', hb, rowB, c2, w1, w2]
    exact .own [(0, 0)] (by simp) (by simp) (by simp [setS, hr]) (by simp) (by simp [setS, hr, hk, hb, c2])
  · simp [hr, hk, hk', hb, rowB, c2, w1, w2]
    exact .own [(0, 0)] (by simp) (by simp) (by simp [setS, hr]) (by simp) (by simp [setS, hr, hk, hb, c2])
theorem refset_own {s : Sto} {lab cell : ByteArray} {k : Nat} (hl : s.bs.length < 1000000) (hm : small s.many) (hg : small s.gone) (hk : k < s.bs.length) (hr : (findB s.bs lab).2 = k) :
    CallOk Try.prog 43 [ownP s.bs.length s.many s.gone, .val (.string lab), .val (.string cell)] [(0, ⟨25, 3, rowsB s.bs, .cells⟩)]
      (ownP s.bs.length (setS s lab cell).many (setS s lab cell).gone) [(0, ⟨25, 3, rowsB (setS s lab cell).bs, .cells⟩)] := by
  refine .of_exec Try.func43 rfl (enters_43) rfl rfl (Nat.le_of_ble_eq_true rfl) (fun n h => by simp; omega) ?_
  simp
  refine .lent [0] (reffind_call s lab (by omega)) (by simp) (by simp) (by simp) (by simp) (by simp) (by simp) ?_
  obtain ⟨b, hb⟩ : ∃ b, s.bs[k] = b := ⟨_, rfl⟩
  have w1 : IntKind.i64.wrap (s.many + 1) = s.many + 1 := by unfold small at hm; exact w64 (by omega) (by omega)
  have w2 : IntKind.i64.wrap (s.gone - 1) = s.gone - 1 := by unfold small at hg; exact w64 (by omega) (by omega)
  have hk' : (k : Int) < s.bs.length := by omega
  by_cases c2 : b.st = 2
  · simp [hr, hk, hk', hb, rowB, c2, w1, w2]
    exact .own [(0, 0)] (by simp) (by simp) (by simp [setS, hr]) (by simp) (by simp [setS, hr, hk, hb, c2])
  · simp [hr, hk, hk', hb, rowB, c2, w1, w2]
    exact .own [(0, 0)] (by simp) (by simp) (by simp [setS, hr]) (by simp) (by simp [setS, hr, hk, hb, c2])
end Go.Proofs.Ythijmjglpcljcaa.Sy
