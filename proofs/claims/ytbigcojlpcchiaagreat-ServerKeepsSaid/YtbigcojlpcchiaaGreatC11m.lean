/- Layer 11: may a response be? -/
import Derived.Test.YtbigcojlpcchiaaGreatC11e
namespace Go.Proofs.YtbigcojlpcchiaaGreat.Sy
open Go Go.RowKit
set_option linter.unusedVariables false
set_option linter.unusedSimpArgs false
set_option maxRecDepth 10000
set_option maxHeartbeats 4000000
abbrev resP (k st : Int) (cs : List ByteArray) (m r : Int) : PV := .agg [.val (.int .i64 k), .val (.int .i64 st), .rd 1 (strs cs), .val (.int .i64 m), .val (.int .i64 r)]
def cellB (x : ByteArray) : Bool := decide (x.size = 0) || decide ((x.size : Int) = 40)
def numB (n : Int) : Bool := decide (0 ≤ n) && decide (n ≤ 2147483647)
def emptyA (k st : Int) (cs : List ByteArray) (m r : Int) : Bool := decide ((k = 0 ∨ k = 1 ∨ k = 2 ∨ k = 3 ∨ k = 4) ∧ (k = 1 ∨ st = 0) ∧ (k = 2 ∨ cs = []) ∧ (k = 3 ∨ k = 4 ∨ m = 0) ∧ (k = 4 ∨ r = 0))
def mayA (k st : Int) (cs : List ByteArray) (m r : Int) : Bool := emptyA k st cs m r && (decide (0 ≤ st) && (decide (st ≤ 2) && (decide (cs.length ≤ 200) && (cs.all cellB && (numB m && numB r)))))
theorem cell_call {x : ByteArray} : CallOk Tryz.prog 104 [.val (.string x)] [] (.val (.bool (cellB x))) [] := by
  refine .of_exec Tryz.func104 rfl (enters_104) rfl rfl (Nat.le_of_ble_eq_true rfl) (fun n _ => rfl) ?_
  simp
  exact .plain (by simp) (by simp [cellB]; rfl)
theorem num_call {n : Int} : CallOk Tryz.prog 105 [.val (.int .i64 n)] [] (.val (.bool (numB n))) [] := by
  refine .of_exec Tryz.func105 rfl (enters_105) rfl rfl (Nat.le_of_ble_eq_true rfl) (fun n _ => rfl) ?_
  simp
  exact .plain (by simp) (by simp [numB])
theorem may_call {k st m r : Int} {cs : List ByteArray} (hc : cs.length ≤ 4294967296) : CallOk Tryz.prog 81 [resP k st cs m r] [] (.val (.bool (mayA k st cs m r))) [] := by
  refine .of_exec Tryz.func81 rfl (enters_81) rfl rfl (Nat.le_of_ble_eq_true rfl) (fun n _ => rfl) ?_
  have mc : cs.length ≤ maxLen := by unfold maxLen; omega
  by_cases k0 : k = 0
  · subst k0
    by_cases hp : st = 0 ∧ cs = [] ∧ m = 0 ∧ r = 0 ∧ 0 ≤ st ∧ st ≤ 2 ∧ (cs.length : Int) ≤ 200
    · obtain ⟨p0, p1, p2, p3, p4, p5, p6⟩ := hp
      have q : cs.length ≤ 200 := by omega
      have e : mayA 0 st cs m r = (cs.all cellB && (numB m && numB r)) := by unfold mayA emptyA; simp [p0, p1, p2, p3, p4, p5, p6, q]
      have d0 : decide (st = 0) = true := decide_eq_true p0
      have d1 : decide (cs = []) = true := decide_eq_true p1
      have d2 : decide (m = 0) = true := decide_eq_true p2
      have d3 : decide (r = 0) = true := decide_eq_true p3
      have d4 : decide (0 ≤ st) = true := decide_eq_true p4
      have d5 : decide (st ≤ 2) = true := decide_eq_true p5
      have d6 : decide ((cs.length : Int) ≤ 200) = true := decide_eq_true p6
      clear p0 p1 p2 p3 p4 p5 p6
      rw [e]
      simp [-decide_eq_true_eq, d0, d1, d2, d3, d4, d5, d6]
      refine .plain (only_call mc (.inl rfl) cellB fun _ _ => cell_call) (by simp) (by simp) ?_
      cases ha : cs.all cellB with
      | false =>
        simp
        exact .plain (by simp) (by simp)
      | true =>
        simp
        refine .plain (num_call (n := m)) (by simp) (by simp) ?_
        cases hm : numB m with
        | false =>
          simp
          exact .plain (by simp) (by simp)
        | true =>
          simp
          refine .plain (num_call (n := r)) (by simp) (by simp) ?_
          simp
          exact .plain (by simp) (by simp)
    · have hb : (decide (st = 0) && decide (cs = []) && decide (m = 0) && decide (r = 0) && decide (0 ≤ st) && decide (st ≤ 2) && decide ((cs.length : Int) ≤ 200)) = false := by
        rw [Bool.eq_false_iff]; intro h; apply hp; simpa [and_assoc] using h
      have e : mayA 0 st cs m r = false := by
        rw [Bool.eq_false_iff]; intro h; apply hp; unfold mayA emptyA at h; simp at h; obtain ⟨h1, h2, h3, h4, h5, h6, h7⟩ := h; refine ⟨?_, ?_, ?_, ?_, ?_, ?_, ?_⟩ <;> first | assumption | omega | simp_all
      simp [hb, e]
      exact .plain (by simp) (by simp)
  by_cases k1 : k = 1
  · subst k1
    by_cases hp : cs = [] ∧ m = 0 ∧ r = 0 ∧ 0 ≤ st ∧ st ≤ 2 ∧ (cs.length : Int) ≤ 200
    · obtain ⟨p0, p1, p2, p3, p4, p5⟩ := hp
      have q : cs.length ≤ 200 := by omega
      have e : mayA 1 st cs m r = (cs.all cellB && (numB m && numB r)) := by unfold mayA emptyA; simp [p0, p1, p2, p3, p4, p5, q]
      have d0 : decide (cs = []) = true := decide_eq_true p0
      have d1 : decide (m = 0) = true := decide_eq_true p1
      have d2 : decide (r = 0) = true := decide_eq_true p2
      have d3 : decide (0 ≤ st) = true := decide_eq_true p3
      have d4 : decide (st ≤ 2) = true := decide_eq_true p4
      have d5 : decide ((cs.length : Int) ≤ 200) = true := decide_eq_true p5
      clear p0 p1 p2 p3 p4 p5
      rw [e]
      simp [-decide_eq_true_eq, d0, d1, d2, d3, d4, d5]
      refine .plain (only_call mc (.inl rfl) cellB fun _ _ => cell_call) (by simp) (by simp) ?_
      cases ha : cs.all cellB with
      | false =>
        simp
        exact .plain (by simp) (by simp)
      | true =>
        simp
        refine .plain (num_call (n := m)) (by simp) (by simp) ?_
        cases hm : numB m with
        | false =>
          simp
          exact .plain (by simp) (by simp)
        | true =>
          simp
          refine .plain (num_call (n := r)) (by simp) (by simp) ?_
          simp
          exact .plain (by simp) (by simp)
    · have hb : (decide (cs = []) && decide (m = 0) && decide (r = 0) && decide (0 ≤ st) && decide (st ≤ 2) && decide ((cs.length : Int) ≤ 200)) = false := by
        rw [Bool.eq_false_iff]; intro h; apply hp; simpa [and_assoc] using h
      have e : mayA 1 st cs m r = false := by
        rw [Bool.eq_false_iff]; intro h; apply hp; unfold mayA emptyA at h; simp at h; obtain ⟨h1, h2, h3, h4, h5, h6, h7⟩ := h; refine ⟨?_, ?_, ?_, ?_, ?_, ?_⟩ <;> first | assumption | omega | simp_all
      simp [hb, e]
      exact .plain (by simp) (by simp)
  by_cases k2 : k = 2
  · subst k2
    by_cases hp : st = 0 ∧ m = 0 ∧ r = 0 ∧ 0 ≤ st ∧ st ≤ 2 ∧ (cs.length : Int) ≤ 200
    · obtain ⟨p0, p1, p2, p3, p4, p5⟩ := hp
      have q : cs.length ≤ 200 := by omega
      have e : mayA 2 st cs m r = (cs.all cellB && (numB m && numB r)) := by unfold mayA emptyA; simp [p0, p1, p2, p3, p4, p5, q]
      have d0 : decide (st = 0) = true := decide_eq_true p0
      have d1 : decide (m = 0) = true := decide_eq_true p1
      have d2 : decide (r = 0) = true := decide_eq_true p2
      have d3 : decide (0 ≤ st) = true := decide_eq_true p3
      have d4 : decide (st ≤ 2) = true := decide_eq_true p4
      have d5 : decide ((cs.length : Int) ≤ 200) = true := decide_eq_true p5
      clear p0 p1 p2 p3 p4 p5
      rw [e]
      simp [-decide_eq_true_eq, d0, d1, d2, d3, d4, d5]
      refine .plain (only_call mc (.inl rfl) cellB fun _ _ => cell_call) (by simp) (by simp) ?_
      cases ha : cs.all cellB with
      | false =>
        simp
        exact .plain (by simp) (by simp)
      | true =>
        simp
        refine .plain (num_call (n := m)) (by simp) (by simp) ?_
        cases hm : numB m with
        | false =>
          simp
          exact .plain (by simp) (by simp)
        | true =>
          simp
          refine .plain (num_call (n := r)) (by simp) (by simp) ?_
          simp
          exact .plain (by simp) (by simp)
    · have hb : (decide (st = 0) && decide (m = 0) && decide (r = 0) && decide (0 ≤ st) && decide (st ≤ 2) && decide ((cs.length : Int) ≤ 200)) = false := by
        rw [Bool.eq_false_iff]; intro h; apply hp; simpa [and_assoc] using h
      have e : mayA 2 st cs m r = false := by
        rw [Bool.eq_false_iff]; intro h; apply hp; unfold mayA emptyA at h; simp at h; obtain ⟨h1, h2, h3, h4, h5, h6, h7⟩ := h; refine ⟨?_, ?_, ?_, ?_, ?_, ?_⟩ <;> first | assumption | omega | simp_all
      simp [hb, e]
      exact .plain (by simp) (by simp)
  by_cases k3 : k = 3
  · subst k3
    by_cases hp : st = 0 ∧ cs = [] ∧ r = 0 ∧ 0 ≤ st ∧ st ≤ 2 ∧ (cs.length : Int) ≤ 200
    · obtain ⟨p0, p1, p2, p3, p4, p5⟩ := hp
      have q : cs.length ≤ 200 := by omega
      have e : mayA 3 st cs m r = (cs.all cellB && (numB m && numB r)) := by unfold mayA emptyA; simp [p0, p1, p2, p3, p4, p5, q]
      have d0 : decide (st = 0) = true := decide_eq_true p0
      have d1 : decide (cs = []) = true := decide_eq_true p1
      have d2 : decide (r = 0) = true := decide_eq_true p2
      have d3 : decide (0 ≤ st) = true := decide_eq_true p3
      have d4 : decide (st ≤ 2) = true := decide_eq_true p4
      have d5 : decide ((cs.length : Int) ≤ 200) = true := decide_eq_true p5
      clear p0 p1 p2 p3 p4 p5
      rw [e]
      simp [-decide_eq_true_eq, d0, d1, d2, d3, d4, d5]
      refine .plain (only_call mc (.inl rfl) cellB fun _ _ => cell_call) (by simp) (by simp) ?_
      cases ha : cs.all cellB with
      | false =>
        simp
        exact .plain (by simp) (by simp)
      | true =>
        simp
        refine .plain (num_call (n := m)) (by simp) (by simp) ?_
        cases hm : numB m with
        | false =>
          simp
          exact .plain (by simp) (by simp)
        | true =>
          simp
          refine .plain (num_call (n := r)) (by simp) (by simp) ?_
          simp
          exact .plain (by simp) (by simp)
    · have hb : (decide (st = 0) && decide (cs = []) && decide (r = 0) && decide (0 ≤ st) && decide (st ≤ 2) && decide ((cs.length : Int) ≤ 200)) = false := by
        rw [Bool.eq_false_iff]; intro h; apply hp; simpa [and_assoc] using h
      have e : mayA 3 st cs m r = false := by
        rw [Bool.eq_false_iff]; intro h; apply hp; unfold mayA emptyA at h; simp at h; obtain ⟨h1, h2, h3, h4, h5, h6, h7⟩ := h; refine ⟨?_, ?_, ?_, ?_, ?_, ?_⟩ <;> first | assumption | omega | simp_all
      simp [hb, e]
      exact .plain (by simp) (by simp)
  by_cases k4 : k = 4
  · subst k4
    by_cases hp : st = 0 ∧ cs = [] ∧ 0 ≤ st ∧ st ≤ 2 ∧ (cs.length : Int) ≤ 200
    · obtain ⟨p0, p1, p2, p3, p4⟩ := hp
      have q : cs.length ≤ 200 := by omega
      have e : mayA 4 st cs m r = (cs.all cellB && (numB m && numB r)) := by unfold mayA emptyA; simp [p0, p1, p2, p3, p4, q]
      have d0 : decide (st = 0) = true := decide_eq_true p0
      have d1 : decide (cs = []) = true := decide_eq_true p1
      have d2 : decide (0 ≤ st) = true := decide_eq_true p2
      have d3 : decide (st ≤ 2) = true := decide_eq_true p3
      have d4 : decide ((cs.length : Int) ≤ 200) = true := decide_eq_true p4
      clear p0 p1 p2 p3 p4
      rw [e]
      simp [-decide_eq_true_eq, d0, d1, d2, d3, d4]
      refine .plain (only_call mc (.inl rfl) cellB fun _ _ => cell_call) (by simp) (by simp) ?_
      cases ha : cs.all cellB with
      | false =>
        simp
        exact .plain (by simp) (by simp)
      | true =>
        simp
        refine .plain (num_call (n := m)) (by simp) (by simp) ?_
        cases hm : numB m with
        | false =>
          simp
          exact .plain (by simp) (by simp)
        | true =>
          simp
          refine .plain (num_call (n := r)) (by simp) (by simp) ?_
          simp
          exact .plain (by simp) (by simp)
    · have hb : (decide (st = 0) && decide (cs = []) && decide (0 ≤ st) && decide (st ≤ 2) && decide ((cs.length : Int) ≤ 200)) = false := by
        rw [Bool.eq_false_iff]; intro h; apply hp; simpa [and_assoc] using h
      have e : mayA 4 st cs m r = false := by
        rw [Bool.eq_false_iff]; intro h; apply hp; unfold mayA emptyA at h; simp at h; obtain ⟨h1, h2, h3, h4, h5, h6, h7⟩ := h; refine ⟨?_, ?_, ?_, ?_, ?_⟩ <;> first | assumption | omega | simp_all
      simp [hb, e]
      exact .plain (by simp) (by simp)
  have e : mayA k st cs m r = false := by unfold mayA emptyA; simp [k0, k1, k2, k3, k4]
  simp [k0, k1, k2, k3, k4, e]
  exact .plain (by simp) (by simp)
end Go.Proofs.YtbigcojlpcchiaaGreat.Sy
