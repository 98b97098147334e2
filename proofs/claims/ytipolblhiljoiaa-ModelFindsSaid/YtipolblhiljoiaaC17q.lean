/- Layer 17: what the program's and the document's changes come to is the same. -/
import Derived.Test.YtipolblhiljoiaaC17f
namespace Go.Proofs.Ytipolblhiljoiaa.Sy
open Go Go.RowKit
set_option linter.unusedVariables false
set_option linter.unusedSimpArgs false
def sortD (l : List DocW) : Prop := l.Pairwise fun a b => a.id < b.id
theorem right_sort {l : List DocW} (h : rightD l = true) : sortD l := by
  unfold rightD at h
  simp only [Bool.and_eq_true] at h
  have := (adjI_iff _).1 h.2
  rwa [List.pairwise_map] at this
theorem right_facts17 {l : List DocW} (h : rightD l = true) : l.length ≤ 40 ∧ ∀ d ∈ l, docOk d = true := by
  unfold rightD at h
  simp only [Bool.and_eq_true, decide_eq_true_eq, List.all_eq_true] at h
  exact ⟨h.1.2, h.1.1⟩
theorem right_mk {l : List DocW} (h1 : l.length ≤ 40) (h2 : ∀ d ∈ l, docOk d = true) (h3 : sortD l) : rightD l = true := by
  unfold rightD
  simp only [Bool.and_eq_true, decide_eq_true_eq, List.all_eq_true]
  refine ⟨⟨h2, h1⟩, (adjI_iff _).2 ?_⟩
  rw [List.pairwise_map]; exact h3
theorem has_false {l : List DocW} {id : Int} (h : hasD l id = false) : ∀ d ∈ l, d.id ≠ id := fun d hd e => by
  unfold hasD at h
  rw [List.any_eq_false] at h
  exact h d hd (by simp [e])
theorem has_iff {l : List DocW} {id : Int} : hasD l id = true ↔ ∃ d ∈ l, d.id = id := by
  unfold hasD
  rw [List.any_eq_true]
  simp
theorem pos_unique {l : List DocW} {id : Int} {p q : Nat} (hp : p ≤ l.length) (hq : q ≤ l.length) (p1 : ∀ d ∈ l.take p, d.id < id) (p2 : ∀ d ∈ l.drop p, id < d.id)
    (q1 : ∀ d ∈ l.take q, d.id < id) (q2 : ∀ d ∈ l.drop q, id < d.id) : p = q := by
  have key : ∀ a b : Nat, a < b → b ≤ l.length → (∀ d ∈ l.drop a, id < d.id) → (∀ d ∈ l.take b, d.id < id) → False := fun a b hab hb h1 h2 => by
    have ha : a < l.length := by omega
    have e1 := h1 l[a] (by rw [List.drop_eq_getElem_cons ha]; exact List.mem_cons_self)
    have e2 := h2 l[a] (by rw [← List.getElem_take (h := by simp; omega) (i := a) (j := b)]; exact List.getElem_mem _)
    omega
  rcases Nat.lt_trichotomy p q with h | h | h
  · exact (key p q h hq p2 q1).elim
  · exact h
  · exact (key q p h hp q2 p1).elim
theorem down_facts {l : List DocW} {id : Int} (hs : sortD l) (hn : hasD l id = false) : (∀ d ∈ l.take (downD l id l.length), d.id < id) ∧ ∀ d ∈ l.drop (downD l id l.length), id < d.id := by
  have key : ∀ n, n ≤ l.length → (∀ w ∈ l.drop n, id < w.id) → (∀ w ∈ l.take (downD l id n), w.id < id) ∧ ∀ w ∈ l.drop (downD l id n), id < w.id := by
    intro n
    induction n with
    | zero => intro _ h; exact ⟨by simp [downD], h⟩
    | succ n ih =>
      intro hn' h
      have hlt : n < l.length := by omega
      have hg : l.getD n ⟨0, []⟩ = l[n] := by rw [List.getD_eq_getElem?_getD, List.getElem?_eq_getElem hlt]; rfl
      rw [downD, hg]
      by_cases c : id < l[n].id
      · rw [if_pos c]
        refine ih (by omega) (fun w hw => ?_)
        rw [List.drop_eq_getElem_cons hlt] at hw
        rcases List.mem_cons.1 hw with rfl | hw
        · exact c
        · exact h w hw
      · rw [if_neg c]
        refine ⟨fun w hw => ?_, h⟩
        have hne := has_false hn l[n] (List.getElem_mem hlt)
        rw [wtake_one hlt] at hw
        rcases List.mem_append.1 hw with hw | hw
        · obtain ⟨j, hj, rfl⟩ := List.getElem_of_mem hw
          rw [List.length_take] at hj
          rw [List.getElem_take]
          have hp := List.pairwise_iff_getElem.1 hs j n (by omega) hlt (by omega)
          omega
        · rw [List.mem_singleton.1 hw]; omega
  exact key l.length (Nat.le_refl _) (by simp)
theorem posD_le (l : List DocW) (id : Int) : posD l id ≤ l.length := (List.takeWhile_prefix _).length_le
theorem pos_facts {l : List DocW} {id : Int} (hs : sortD l) : (∀ d ∈ l.take (posD l id), d.id < id) ∧ ∀ d ∈ l.drop (posD l id), id ≤ d.id := by
  induction l with
  | nil => simp
  | cons x r ih =>
    obtain ⟨s1, s2⟩ := List.pairwise_cons.1 hs
    unfold posD
    rw [List.takeWhile_cons]
    by_cases c : x.id < id
    · rw [if_pos (by simp [c]), List.length_cons, List.take_succ_cons, List.drop_succ_cons]
      obtain ⟨i1, i2⟩ := ih s2
      refine ⟨fun d hd => ?_, i2⟩
      rcases List.mem_cons.1 hd with rfl | hd
      · exact c
      · exact i1 d hd
    · rw [if_neg (by simp [c])]
      refine ⟨by simp, fun d hd => ?_⟩
      rw [List.length_nil, List.drop_zero] at hd
      rcases List.mem_cons.1 hd with rfl | hd
      · omega
      · have := s1 d hd; omega
theorem pos_down {l : List DocW} {id : Int} (hs : sortD l) (hn : hasD l id = false) : downD l id l.length = posD l id := by
  obtain ⟨d1, d2⟩ := down_facts hs hn
  obtain ⟨p1, p2⟩ := pos_facts (id := id) hs
  refine pos_unique (downD_le l id _) (posD_le l id) d1 d2 p1 (fun d hd => ?_)
  have h1 := p2 d hd
  have h2 := has_false hn d (List.mem_of_mem_drop hd)
  omega
theorem del_none {l : List DocW} {id : Int} (hn : hasD l id = false) : delD l id = l := by
  unfold delD
  rw [List.filter_eq_self]
  intro d hd
  simp [has_false hn d hd]
theorem with_ins {l : List DocW} {id : Int} {ws : List ByteArray} (hs : sortD l) (hn : hasD l id = false) : withD (delD l id) ⟨id, ws⟩ = insD l ⟨id, ws⟩ := by
  rw [del_none hn]
  unfold withD insD
  simp only
  rw [pos_down hs hn]
theorem has_at {l : List DocW} {id : Int} (hs : sortD l) {k : Nat} (hk : k < l.length) (e : l[k].id = id) : (∀ d ∈ l.take k, d.id < id) ∧ (∀ d ∈ l.drop (k + 1), id < d.id) := by
  have hp := List.pairwise_iff_getElem.1 hs
  constructor
  · intro d hd
    obtain ⟨j, hj, rfl⟩ := List.getElem_of_mem hd
    rw [List.length_take] at hj
    rw [List.getElem_take]
    have := hp j k (by omega) hk (by omega)
    omega
  · intro d hd
    obtain ⟨j, hj, rfl⟩ := List.getElem_of_mem hd
    rw [List.length_drop] at hj
    rw [List.getElem_drop]
    have := hp k (k + 1 + j) hk (by omega) (by omega)
    omega
theorem del_at {l : List DocW} {id : Int} (hs : sortD l) {k : Nat} (hk : k < l.length) (e : l[k].id = id) : delD l id = l.take k ++ l.drop (k + 1) := by
  obtain ⟨h1, h2⟩ := has_at hs hk e
  have hl : l = l.take k ++ (l[k] :: l.drop (k + 1)) := by rw [← List.drop_eq_getElem_cons hk, List.take_append_drop]
  unfold delD
  conv => lhs; rw [hl]
  rw [List.filter_append, List.filter_cons, if_neg (by simp [e])]
  congr 1
  · rw [List.filter_eq_self]
    intro d hd
    have := h1 d hd
    simp; omega
  · rw [List.filter_eq_self]
    intro d hd
    have := h2 d hd
    simp; omega
theorem rep_at {l : List DocW} {id : Int} {ws : List ByteArray} (hs : sortD l) {k : Nat} (hk : k < l.length) (e : l[k].id = id) : repD l id ws = l.take k ++ [⟨id, ws⟩] ++ l.drop (k + 1) := by
  obtain ⟨h1, h2⟩ := has_at hs hk e
  have hl : l = l.take k ++ (l[k] :: l.drop (k + 1)) := by rw [← List.drop_eq_getElem_cons hk, List.take_append_drop]
  unfold repD
  conv => lhs; rw [hl]
  rw [List.map_append, List.map_cons, if_pos e, e]
  have m1 : (l.take k).map (fun d => if d.id = id then (⟨d.id, ws⟩ : DocW) else d) = l.take k := by
    conv => rhs; rw [← List.map_id (l.take k)]
    refine List.map_congr_left fun d hd => ?_
    have := h1 d hd
    rw [if_neg (by omega)]; rfl
  have m2 : (l.drop (k + 1)).map (fun d => if d.id = id then (⟨d.id, ws⟩ : DocW) else d) = l.drop (k + 1) := by
    conv => rhs; rw [← List.map_id (l.drop (k + 1))]
    refine List.map_congr_left fun d hd => ?_
    have := h2 d hd
    rw [if_neg (by omega)]; rfl
  rw [m1, m2]
  simp
theorem sort_del {l : List DocW} (hs : sortD l) (id : Int) : sortD (delD l id) := List.Pairwise.sublist List.filter_sublist hs
theorem del_has (l : List DocW) (id : Int) : hasD (delD l id) id = false := by
  unfold hasD delD
  rw [List.any_eq_false]
  intro d hd
  have := (List.mem_filter.1 hd).2
  simpa using this
theorem with_rep {l : List DocW} {id : Int} {ws : List ByteArray} (hs : sortD l) (hn : hasD l id = true) : withD (delD l id) ⟨id, ws⟩ = repD l id ws := by
  obtain ⟨d, hd, e⟩ := has_iff.1 hn
  obtain ⟨k, hk, rfl⟩ := List.getElem_of_mem hd
  obtain ⟨h1, h2⟩ := has_at hs hk e
  have hdel := del_at hs hk e
  obtain ⟨d1, d2⟩ := down_facts (sort_del hs id) (del_has l id)
  have hlk : (l.take k).length = k := by rw [List.length_take]; omega
  have hp : downD (delD l id) id (delD l id).length = k := by
    refine pos_unique (downD_le _ _ _) (by rw [hdel, List.length_append, hlk]; omega) d1 d2 ?_ ?_
    · rw [hdel, List.take_left' hlk]; exact h1
    · rw [hdel, List.drop_left' hlk]; exact h2
  unfold withD
  simp only
  rw [hp, rep_at hs hk e, hdel, List.take_left' hlk, List.drop_left' hlk]
end Go.Proofs.Ytipolblhiljoiaa.Sy
