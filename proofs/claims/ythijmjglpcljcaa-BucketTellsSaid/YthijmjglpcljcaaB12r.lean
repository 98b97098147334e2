/- Layer 12: what is in a store; put, taken away, filled anew. -/
import Derived.Test.YthijmjglpcljcaaB12h
import Derived.Test.YthijmjglpcljcaaB12q
namespace Go.Proofs.Ythijmjglpcljcaa.Sy
open Go Go.RowKit
set_option linter.unusedVariables false
set_option linter.unusedSimpArgs false
/-- A cell is there under a label. -/
def inB (bs : List Bkt) (lab cell : ByteArray) : Prop := ∃ j, j < bs.length ∧ (atB bs j).st = 1 ∧ (atB bs j).lab = lab ∧ (atB bs j).cell = cell
theorem inB_take {bs : List Bkt} {i : Nat} (hi : i < bs.length) (lab cell : ByteArray) : inB (bs.take (i + 1)) lab cell ↔ inB (bs.take i) lab cell ∨ ((atB bs i).st = 1 ∧ (atB bs i).lab = lab ∧ (atB bs i).cell = cell) := by
  have hat : ∀ m j, j < m → atB (bs.take m) j = atB bs j := fun m j hj => by
    unfold atB
    rw [List.getD_eq_getElem?_getD, List.getD_eq_getElem?_getD, List.getElem?_take, if_pos hj]
  constructor
  · rintro ⟨j, h1, h2⟩
    rw [List.length_take] at h1
    rw [hat _ _ (by omega)] at h2
    by_cases e : j = i
    · subst e; exact .inr h2
    · exact .inl ⟨j, by rw [List.length_take]; omega, by rw [hat _ _ (by omega)]; exact h2⟩
  · rintro (⟨j, h1, h2⟩ | h)
    · rw [List.length_take] at h1
      rw [hat _ _ (by omega)] at h2
      exact ⟨j, by rw [List.length_take]; omega, by rw [hat _ _ (by omega)]; exact h2⟩
    · exact ⟨i, by rw [List.length_take]; omega, by rw [hat _ _ (by omega)]; exact h⟩
theorem setS_of {s : Sto} {lab cell : ByteArray} {k : Nat} (hr : (findB s.bs lab).2 = k) : setS s lab cell = setOf s k lab cell := by
  unfold setS setOf
  rw [hr]
  rfl
theorem in_setOf {s : Sto} {k : Nat} {lab cell : ByteArray} (hk : k < s.bs.length) (hu : (atB s.bs k).st ≠ 1) (l c : ByteArray) : inB (setOf s k lab cell).bs l c ↔ (l = lab ∧ c = cell) ∨ inB s.bs l c := by
  unfold inB
  simp only [setOf, List.length_set]
  constructor
  · rintro ⟨j, h1, h2⟩
    rw [atB_set hk] at h2
    by_cases e : k = j
    · rw [if_pos e] at h2; exact .inl ⟨h2.2.1.symm, h2.2.2.symm⟩
    · rw [if_neg e] at h2; exact .inr ⟨j, h1, h2⟩
  · rintro (⟨rfl, rfl⟩ | ⟨j, h1, h2⟩)
    · exact ⟨k, hk, by rw [atB_set hk, if_pos rfl]; exact ⟨rfl, rfl, rfl⟩⟩
    · refine ⟨j, h1, ?_⟩
      rw [atB_set hk, if_neg (fun e => by subst e; exact hu h2.1)]
      exact h2
/-- A label that is not there can be set where not all is Used. -/
theorem set_ok {s : Sto} {lab cell : ByteArray} (h : Right0 s) (hl : lab.size = 16) (hc : cell.size = 40) (hnew : ∀ c, ¬ inB s.bs lab c) (hu : usedN s.bs < s.bs.length) :
    ∃ k : Nat, k < s.bs.length ∧ (findB s.bs lab).2 = k ∧ (atB s.bs k).st ≠ 1 ∧ Right0 (setS s lab cell) ∧ (setS s lab cell).bs.length = s.bs.length ∧ (setS s lab cell).many = s.many + 1 ∧ (∀ l c, inB (setS s lab cell).bs l c ↔ (l = lab ∧ c = cell) ∨ inB s.bs l c) ∧ (setS s lab cell).gone ≤ s.gone := by
  have hn : 0 < s.bs.length := by omega
  have hno : ∀ j, j < s.bs.length → (atB s.bs j).st = 1 → (atB s.bs j).lab ≠ lab := fun j hj hu' e => hnew _ ⟨j, hj, hu', e, rfl⟩
  have hm : (findB s.bs lab).1 = -1 := by
    rcases find_mem h.path h.dist lab hn with ⟨g, _⟩ | ⟨k, g1, g2, g3, g4⟩
    · exact g
    · exact absurd g4 (hno k g1 g3)
  obtain ⟨k, h1, h2, h3⟩ := find_room hu hm
  refine ⟨k, h1, h2, h3, ?_⟩
  rw [setS_of h2]
  refine ⟨set_right h hl hc hno h1 h2 h3, by simp [setOf], rfl, in_setOf h1 h3, ?_⟩
  simp only [setOf]
  split <;> omega
def refillS (t : Sto) (l : List Bkt) : Sto := l.foldl (fun t b => if b.st = 1 then setS t b.lab b.cell else t) t
theorem refill_succ {t : Sto} {bs : List Bkt} {i : Nat} (hi : i < bs.length) : refillS t (bs.take (i + 1)) = if (atB bs i).st = 1 then setS (refillS t (bs.take i)) (atB bs i).lab (atB bs i).cell else refillS t (bs.take i) := by
  rw [List.take_succ_eq_append_getElem hi, refillS, List.foldl_append, ← atB_get hi]
  rfl
abbrev freshS (n : Nat) : Sto := ⟨List.replicate n .free, 0, 0⟩
theorem atB_replicate (n j : Nat) : atB (List.replicate n .free) j = .free := by
  unfold atB
  rw [List.getD_eq_getElem?_getD, List.getElem?_replicate]
  split <;> rfl
theorem fresh_right {n : Nat} (h : sizeB n = true) : RightI (freshS n) := by
  have hc : ∀ p : Bkt → Bool, p .free = false → (List.replicate n Bkt.free).countP p = 0 := fun p hp => by
    rw [List.countP_eq_zero]
    intro a ha
    rw [List.eq_of_mem_replicate ha, hp]; simp
  refine ⟨by simpa using h, fun j _ => ?_, fun j _ hu => ?_, fun j k _ _ hu => ?_, ?_, ?_, by simp; omega⟩
  · simp only [atB_replicate]; rfl
  · simp only [atB_replicate] at hu; simp at hu
  · simp only [atB_replicate] at hu; simp at hu
  · unfold usedN; rw [hc _ (by simp)]; rfl
  · unfold goneN; rw [hc _ (by simp)]; rfl
theorem fresh_in (n : Nat) (l c : ByteArray) : ¬ inB (List.replicate n Bkt.free) l c := by
  rintro ⟨j, _, h, _⟩
  simp only [atB_replicate] at h; simp at h
/-- What filling anew comes to. -/
theorem refill_ok {s : Sto} (h : RightI s) {n : Nat} (hn : sizeB n = true) (hu : usedN s.bs ≤ n) : ∀ i, i ≤ s.bs.length → Right0 (refillS (freshS n) (s.bs.take i)) ∧ (refillS (freshS n) (s.bs.take i)).bs.length = n ∧
    (refillS (freshS n) (s.bs.take i)).many = usedN (s.bs.take i) ∧ (refillS (freshS n) (s.bs.take i)).gone = 0 ∧ (∀ l c, inB (refillS (freshS n) (s.bs.take i)).bs l c ↔ inB (s.bs.take i) l c) ∧
    (∀ j, j < i → (atB s.bs j).st = 1 → ∃ k : Nat, k < n ∧ (findB (refillS (freshS n) (s.bs.take j)).bs (atB s.bs j).lab).2 = k)
  | 0, _ => by
    have hr := fresh_right hn
    refine ⟨hr.r0, by simp [refillS], by simp [refillS, usedN], rfl, fun l c => ?_, fun j hj => by omega⟩
    simp only [List.take_zero, refillS, List.foldl_nil]
    exact ⟨fun g => absurd g (fresh_in n l c), fun ⟨j, g, _⟩ => by simp at g⟩
  | i + 1, hi => by
    obtain ⟨h1, h2, h3, h4, h5, h6⟩ := refill_ok h hn hu i (by omega)
    have hi' : i < s.bs.length := by omega
    have hut := usedN_take hi' rfl
    rw [← atB_get hi'] at hut
    have hle : usedN (s.bs.take (i + 1)) ≤ usedN s.bs := (List.take_sublist _ _).countP_le
    by_cases c : (atB s.bs i).st = 1
    · rw [if_pos c] at hut
      have hmay := h.may i hi'
      unfold mayB at hmay
      rw [if_pos c] at hmay
      simp only [Bool.and_eq_true, decide_eq_true_eq] at hmay
      have hnew : ∀ c', ¬ inB (refillS (freshS n) (s.bs.take i)).bs (atB s.bs i).lab c' := by
        intro c' hin
        obtain ⟨j, g1, g2, g3, g4⟩ := (h5 _ _).1 hin
        rw [List.length_take] at g1
        have e : atB (s.bs.take i) j = atB s.bs j := by
          unfold atB
          rw [List.getD_eq_getElem?_getD, List.getD_eq_getElem?_getD, List.getElem?_take, if_pos (by omega)]
        rw [e] at g2 g3
        have := h.dist j i (by omega) hi' g2 c g3
        omega
      have hlt : usedN (refillS (freshS n) (s.bs.take i)).bs < (refillS (freshS n) (s.bs.take i)).bs.length := by
        have := h1.many
        rw [h2]
        omega
      obtain ⟨k, g1, g2, g3, g4, g5, g6, g7, g8⟩ := set_ok (cell := (atB s.bs i).cell) h1 (by omega) (by omega) hnew hlt
      rw [refill_succ hi', if_pos c]
      refine ⟨g4, by rw [g5, h2], by rw [g6, h3, hut]; rfl, ?_, fun l c' => ?_, fun j hj hu' => ?_⟩
      · have := g4.gone; omega
      · rw [g7, h5, inB_take hi']
        constructor
        · rintro (⟨rfl, rfl⟩ | g)
          · exact .inr ⟨c, rfl, rfl⟩
          · exact .inl g
        · rintro (g | ⟨_, rfl, rfl⟩)
          · exact .inr g
          · exact .inl ⟨rfl, rfl⟩
      · by_cases e : j = i
        · subst e; exact ⟨k, by omega, g2⟩
        · exact h6 j (by omega) hu'
    · rw [if_neg c] at hut
      rw [refill_succ hi', if_neg c]
      refine ⟨h1, h2, by rw [h3, hut]; rfl, h4, fun l c' => ?_, fun j hj hu' => ?_⟩
      · rw [h5, inB_take hi']
        exact ⟨.inl, fun g => g.resolve_right (fun g => c g.1)⟩
      · by_cases e : j = i
        · subst e; exact absurd hu' c
        · exact h6 j (by omega) hu'
/-- The size of a store that is filled anew. -/
def wideN (s : Sto) : Nat := if 2 * s.many ≥ s.bs.length then 2 * s.bs.length else s.bs.length
def roomy (s : Sto) : Bool := decide (4 * (s.many + s.gone + 1) ≤ 3 * s.bs.length)
def wideS (s : Sto) : Sto := refillS (freshS (wideN s)) s.bs
/-- A store with room for one more. -/
def moreS (s : Sto) : Sto := if roomy s then s else wideS s
theorem right_small {s : Sto} (h : RightI s) : 8 ≤ s.bs.length ∧ s.bs.length ≤ 4096 ∧ 0 ≤ s.many ∧ s.many ≤ 4096 ∧ 0 ≤ s.gone ∧ s.gone ≤ 4096 := by
  have h1 := size_le h.size
  have h2 := h.many
  have h3 := h.gone
  have h4 := h.load
  omega
theorem wide_le {s : Sto} (h : RightI s) : usedN s.bs ≤ wideN s := by
  have := usedN_le s.bs
  unfold wideN
  split <;> omega
theorem wide_ok {s : Sto} (h : RightI s) (hn : sizeB (wideN s) = true) : Right0 (wideS s) ∧ (wideS s).bs.length = wideN s ∧ (wideS s).many = s.many ∧ (wideS s).gone = 0 ∧ ∀ l c, inB (wideS s).bs l c ↔ inB s.bs l c := by
  obtain ⟨h1, h2, h3, h4, h5, _⟩ := refill_ok h hn (wide_le h) s.bs.length (Nat.le_refl _)
  rw [List.take_length] at h1 h2 h3 h4 h5
  exact ⟨h1, h2, (show (wideS s).many = (usedN s.bs : Int) from h3).trans h.many, h4, h5⟩
theorem more_ok {s : Sto} (h : RightI s) (hn : roomy s = true ∨ sizeB (wideN s) = true) : Right0 (moreS s) ∧ (moreS s).many = s.many ∧ (∀ l c, inB (moreS s).bs l c ↔ inB s.bs l c) ∧ 4 * ((moreS s).many + (moreS s).gone + 1) ≤ 3 * (moreS s).bs.length ∧ (moreS s).bs.length = (if roomy s then s.bs.length else wideN s) := by
  unfold moreS
  by_cases c : roomy s = true
  · rw [if_pos c, if_pos c]
    exact ⟨h.r0, rfl, fun _ _ => Iff.rfl, by simpa [roomy] using c, rfl⟩
  · rw [if_neg c, if_neg c]
    have hw := hn.resolve_left c
    obtain ⟨h1, h2, h3, h4, h5⟩ := wide_ok h hw
    refine ⟨h1, h3, h5, ?_, h2⟩
    have := right_small h
    have := h.load
    rw [h2, h3, h4]
    unfold wideN
    split <;> omega
/-- Put, as the document says. -/
def putS (s : Sto) (lab cell : ByteArray) : Sto × Int :=
  if rightB s && decide ((lab.size : Int) = 16) && decide ((cell.size : Int) = 40) then
    if (findB s.bs lab).1 = -1 then
      if roomy s || sizeB (wideN s) then (setS (moreS s) lab cell, 0) else (s, 20)
    else (⟨s.bs.set (findB s.bs lab).1.toNat { atB s.bs (findB s.bs lab).1.toNat with cell := cell }, s.many, s.gone⟩, 0)
  else (s, 1)
def delS (s : Sto) (lab : ByteArray) : Sto × Bool × Int :=
  if rightB s then
    if (findB s.bs lab).1 = -1 then (s, false, 0)
    else (⟨s.bs.set (findB s.bs lab).1.toNat ⟨2, ⟨#[]⟩, ⟨#[]⟩⟩, s.many - 1, s.gone + 1⟩, true, 0)
  else (s, false, 1)
def getS (s : Sto) (lab : ByteArray) : ByteArray × Bool :=
  if rightB s then if (findB s.bs lab).1 = -1 then (⟨#[]⟩, false) else ((atB s.bs (findB s.bs lab).1.toNat).cell, true) else (⟨#[]⟩, false)
end Go.Proofs.Ythijmjglpcljcaa.Sy
