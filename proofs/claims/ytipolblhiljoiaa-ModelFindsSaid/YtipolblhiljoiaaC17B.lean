/- Layer 17: an operation made again. -/
import Derived.Test.YtipolblhiljoiaaC17A
namespace Go.Proofs.Ytipolblhiljoiaa.Sy
open Go Go.RowKit
set_option linter.unusedVariables false
set_option linter.unusedSimpArgs false
theorem do_err {l : List DocW} {k id : Int} {s : ByteArray} (h : (doM l k id s).2.2 ≠ 0) : (doM l k id s).1 = l := by
  revert h
  unfold doM
  split
  · split
    · simp
    · split
      · split <;> simp
      · split
        · simp
        · split
          · split
            · simp
            · split <;> simp
          · split
            · split <;> simp
            · split
              · split <;> simp
              · split <;> simp
  · simp
theorem do_goes {l : List DocW} {k id : Int} {s : ByteArray} (h : (doM l k id s).2.2 = 0) : goesM l k id = true := by
  cases c : goesM l k id with
  | true => rfl
  | false => unfold doM at h; rw [if_neg (by rw [c]; simp)] at h; cases h
theorem goes_right {l m : List DocW} {k id : Int} (h : goesM l k id = true) (hm : rightD m = true) : goesM m k id = true := by
  have := goes_facts h
  unfold goesM at h ⊢
  simp only [Bool.and_eq_true] at h ⊢
  exact ⟨⟨⟨hm, h.1.1.2⟩, h.1.2⟩, h.2⟩
theorem has_ins (l : List DocW) (d : DocW) : hasD (insD l d) d.id = true := has_iff.2 ⟨d, by simp [insD], rfl⟩
theorem has_rep {l : List DocW} {id : Int} {ws : List ByteArray} (h : hasD l id = true) : hasD (repD l id ws) id = true := by
  obtain ⟨d, hd, e⟩ := has_iff.1 h
  exact has_iff.2 ⟨⟨d.id, ws⟩, by unfold repD; exact List.mem_map.2 ⟨d, hd, by rw [if_pos e]⟩, e⟩
theorem rep_rep (l : List DocW) (id : Int) (ws : List ByteArray) : repD (repD l id ws) id ws = repD l id ws := by
  unfold repD
  rw [List.map_map]
  apply List.map_congr_left
  intro d _
  simp only [Function.comp]
  by_cases c : d.id = id
  · rw [if_pos c, if_pos c]
  · rw [if_neg c, if_neg c]
/-- What an operation does, made again. -/
theorem do_again {l : List DocW} (hr : rightD l = true) {k id : Int} {s : ByteArray} :
    (doM (doM l k id s).1 k id s).1 = (doM l k id s).1 ∧
      ((doM l k id s).2.2 ≠ 0 → (doM (doM l k id s).1 k id s).2.2 = (doM l k id s).2.2) ∧
      ((doM l k id s).2.2 = 0 → (doM (doM l k id s).1 k id s).2 = if k = 1 then ([], 21) else if k = 2 then ([], 22) else ((doM l k id s).2.1, 0)) := by
  by_cases he : (doM l k id s).2.2 = 0
  · have hg := do_goes he
    have hr1 := do_right hr k id s
    have hg1 := goes_right hg hr1
    refine (?_ : _ ∧ (doM (doM l k id s).1 k id s).2 = _).elim (fun a b => ⟨a, fun h => absurd he h, fun _ => b⟩)
    have d : ∀ m, goesM m k id = true → doM m k id s = if k = 6 then (m, [], 0)
        else if k = 2 then if hasD m id = true then (delD m id, [], 0) else (m, [], 22)
        else if (setV s).2 ≠ 0 then (m, [], (setV s).2)
        else if k = 1 then if hasD m id = true then (m, [], 21) else if m.length = 40 then (m, [], 20) else (insD m ⟨id, (setV s).1⟩, [], 0)
        else if k = 3 then if hasD m id = true then (repD m id (setV s).1, [], 0) else (m, [], 22)
        else if k = 4 then if (setV s).1 = [] then (m, [], 1) else (m, allM m (setV s).1, 0)
        else if (setV s).1.length = 1 then (m, [], 0) else (m, [], 1) := fun m hm => if_pos hm
    rw [d _ hg1]
    rw [d _ hg] at he ⊢
    by_cases k6 : k = 6
    · subst k6; simp
    by_cases k2 : k = 2
    · subst k2
      cases c : hasD l id with
      | true => simp [c, del_has]
      | false => simp [c] at he
    by_cases hs : (setV s).2 = 0
    · by_cases k1 : k = 1
      · subst k1
        cases c : hasD l id with
        | true => simp [c, hs] at he
        | false =>
          by_cases c2 : l.length = 40
          · simp [c, hs, c2] at he
          · have hi := has_ins l ⟨id, (setV s).1⟩
            simp only at hi
            simp [c, hs, c2, hi]
      by_cases k3 : k = 3
      · subst k3
        cases c : hasD l id with
        | true => simp [c, hs, has_rep c, rep_rep]
        | false => simp [c, hs] at he
      by_cases k4 : k = 4
      · subst k4
        by_cases c : (setV s).1 = []
        · simp [c, hs] at he
        · simp [c, hs]
      · by_cases c : (setV s).1.length = 1
        · simp [c, hs, k6, k2, k1, k3, k4]
        · simp [c, hs, k6, k2, k1, k3, k4] at he
    · simp [hs, k6, k2] at he
  · have e := do_err he
    rw [e]
    exact ⟨e, fun _ => rfl, fun h => absurd h he⟩
end Go.Proofs.Ytipolblhiljoiaa.Sy
