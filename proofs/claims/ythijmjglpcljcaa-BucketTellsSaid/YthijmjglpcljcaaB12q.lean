/- Layer 12: right stores, as plain data. -/
import Derived.Test.YthijmjglpcljcaaB12p
namespace Go.Proofs.Ythijmjglpcljcaa.Sy
open Go Go.RowKit
set_option linter.unusedVariables false
set_option linter.unusedSimpArgs false
abbrev atB (bs : List Bkt) (j : Nat) : Bkt := bs.getD j .free
/-- Every label is found: no Free one is ahead of it on its way. -/
def pathOk (bs : List Bkt) : Prop := ∀ j, j < bs.length → (atB bs j).st = 1 → ∃ i, i < bs.length ∧ placeN bs.length (homeN (atB bs j).lab bs.length) i = j ∧ ∀ i', i' < i → (atB bs (placeN bs.length (homeN (atB bs j).lab bs.length) i')).st ≠ 0
def distinct (bs : List Bkt) : Prop := ∀ j k, j < bs.length → k < bs.length → (atB bs j).st = 1 → (atB bs k).st = 1 → (atB bs j).lab = (atB bs k).lab → j = k
structure RightI (s : Sto) : Prop where
  size : sizeB s.bs.length = true
  may : ∀ j, j < s.bs.length → mayB (atB s.bs j) = true
  path : pathOk s.bs
  dist : distinct s.bs
  many : (usedN s.bs : Int) = s.many
  gone : (goneN s.bs : Int) = s.gone
  load : 4 * (s.many + s.gone) ≤ 3 * s.bs.length
theorem size_pos {n : Nat} (h : sizeB n = true) : 0 < n := by
  simp [sizeB] at h
  omega
theorem find_of {bs : List Bkt} (hp : pathOk bs) (hd : distinct bs) {j : Nat} (hj : j < bs.length) (hu : (atB bs j).st = 1) : (findB bs (atB bs j).lab).1 = j := by
  have hn : 0 < bs.length := by omega
  rcases find_hit (lab := (atB bs j).lab) hn with h | ⟨k, h1, h2, h3, h4⟩
  · exfalso
    obtain ⟨i, g1, g2, g3⟩ := hp j hj hu
    have g2' : (atB bs (placeN bs.length (homeN (atB bs j).lab bs.length) i)) = atB bs j := by rw [g2]
    obtain ⟨i', k1, k2, k3⟩ := scan_miss hn bs.length 0 (-1) h i (by omega) (by omega) (by show (atB bs _).st = 1; rw [g2']; exact hu) (by show (atB bs _).lab = _; rw [g2'])
    exact g3 i' k2 k3
  · rw [h2, hd j k hj h1 hu h3 h4.symm]
theorem path_of {bs : List Bkt} (h : ∀ j, j < bs.length → (atB bs j).st = 1 → (findB bs (atB bs j).lab).1 = j) : pathOk bs ∧ distinct bs := by
  constructor
  · intro j hj hu
    have hf := h j hj hu
    rcases scan_hit (bs := bs) (lab := (atB bs j).lab) (home := homeN (atB bs j).lab bs.length) (by omega) bs.length 0 (-1) with g | ⟨i, g1, g2, g3, g4, g5, g6⟩
    · unfold findB at hf; omega
    · refine ⟨i, by omega, ?_, fun i' hi' => (g6 i' (by omega) hi').1⟩
      unfold findB at hf
      omega
  · intro j k hj hk h1 h2 e
    have a := h j hj h1
    have b := h k hk h2
    rw [e] at a
    omega
theorem right_iff (s : Sto) : rightB s = true ↔ RightI s := by
  constructor
  · intro h
    simp only [rightB, Bool.and_eq_true, decide_eq_true_eq, List.all_eq_true, List.mem_range] at h
    obtain ⟨h1, h2, ⟨h3, h4⟩, h5⟩ := h
    have hp := path_of (bs := s.bs) (fun j hj hu => by
      have := h2 j hj
      simp only [goodAt, Bool.and_eq_true, Bool.or_eq_true, decide_eq_true_eq] at this
      exact this.2.resolve_left (fun k => k hu))
    refine ⟨h1, fun j hj => ?_, hp.1, hp.2, h3, h4, h5⟩
    have := h2 j hj
    simp only [goodAt, Bool.and_eq_true] at this
    exact this.1
  · rintro ⟨h1, h2, h3, h4, h5, h6, h7⟩
    simp only [rightB, Bool.and_eq_true, decide_eq_true_eq, List.all_eq_true, List.mem_range]
    refine ⟨h1, fun j hj => ?_, ⟨h5, h6⟩, h7⟩
    simp only [goodAt, Bool.and_eq_true, Bool.or_eq_true, decide_eq_true_eq]
    refine ⟨h2 j hj, ?_⟩
    by_cases hu : (atB s.bs j).st = 1
    · exact .inr (find_of h3 h4 hj hu)
    · exact .inl hu
theorem atB_set {bs : List Bkt} {k j : Nat} {b : Bkt} (hk : k < bs.length) : atB (bs.set k b) j = if k = j then b else atB bs j := by
  unfold atB
  rw [List.getD_eq_getElem?_getD, List.getElem?_set, List.getD_eq_getElem?_getD]
  by_cases e : k = j
  · subst e; rw [if_pos rfl, if_pos hk, if_pos rfl]; rfl
  · rw [if_neg e, if_neg e]
theorem path_set {bs : List Bkt} {k : Nat} {b : Bkt} (hp : pathOk bs) (hk : k < bs.length) (h0 : b.st ≠ 0)
    (h1 : b.st = 1 → ∃ i, i < bs.length ∧ placeN bs.length (homeN b.lab bs.length) i = k ∧ ∀ i', i' < i → (atB bs (placeN bs.length (homeN b.lab bs.length) i')).st ≠ 0) : pathOk (bs.set k b) := by
  intro j hj hu
  rw [List.length_set] at hj ⊢
  have hst : ∀ x, (atB bs x).st ≠ 0 → (atB (bs.set k b) x).st ≠ 0 := fun x hx => by
    rw [atB_set hk]; split
    · exact h0
    · exact hx
  rw [atB_set hk] at hu ⊢
  by_cases e : k = j
  · rw [if_pos e] at hu ⊢
    obtain ⟨i, g1, g2, g3⟩ := h1 hu
    exact ⟨i, g1, g2.trans e, fun i' hi' => hst _ (g3 i' hi')⟩
  · rw [if_neg e] at hu ⊢
    obtain ⟨i, g1, g2, g3⟩ := hp j hj hu
    exact ⟨i, g1, g2, fun i' hi' => hst _ (g3 i' hi')⟩
theorem distinct_set {bs : List Bkt} {k : Nat} {b : Bkt} (hd : distinct bs) (hk : k < bs.length) (h : b.st = 1 → ∀ j, j < bs.length → j ≠ k → (atB bs j).st = 1 → (atB bs j).lab ≠ b.lab) : distinct (bs.set k b) := by
  intro i j hi hj h1 h2 h3
  rw [List.length_set] at hi hj
  rw [atB_set hk] at h1 h3
  rw [atB_set hk] at h2 h3
  by_cases e : k = i
  · by_cases e' : k = j
    · omega
    · rw [if_pos e] at h1 h3
      rw [if_neg e'] at h2 h3
      exact absurd h3.symm (h h1 j hj (fun x => e' x.symm) h2)
  · by_cases e' : k = j
    · rw [if_neg e] at h1 h3
      rw [if_pos e'] at h2 h3
      exact absurd h3 (h h2 i hi (fun x => e x.symm) h1)
    · rw [if_neg e] at h1 h3
      rw [if_neg e'] at h2 h3
      exact hd i j hi hj h1 h2 h3
theorem atB_get {bs : List Bkt} {k : Nat} (hk : k < bs.length) : atB bs k = bs[k] := by
  unfold atB
  rw [List.getD_eq_getElem?_getD, List.getElem?_eq_getElem hk]; rfl
theorem usedN_set {bs : List Bkt} {k : Nat} (b : Bkt) (hk : k < bs.length) : (usedN (bs.set k b) : Int) = usedN bs - (if (atB bs k).st = 1 then 1 else 0) + (if b.st = 1 then 1 else 0) := by
  have h := List.countP_set (p := fun b : Bkt => decide (b.st = 1)) (a := b) hk
  have hle : (if (atB bs k).st = 1 then 1 else 0) ≤ usedN bs := by
    split
    · next e =>
      refine List.countP_pos_iff.2 ⟨bs[k], List.getElem_mem hk, ?_⟩
      rw [← atB_get hk]; simpa using e
    · omega
  unfold usedN at hle ⊢
  rw [h, ← atB_get hk]
  by_cases e1 : (atB bs k).st = 1 <;> by_cases e2 : b.st = 1 <;> simp only [e1, e2, if_true, if_false, decide_true, decide_false, Bool.false_eq_true] at hle ⊢ <;> omega
theorem goneN_set {bs : List Bkt} {k : Nat} (b : Bkt) (hk : k < bs.length) : (goneN (bs.set k b) : Int) = goneN bs - (if (atB bs k).st = 2 then 1 else 0) + (if b.st = 2 then 1 else 0) := by
  have h := List.countP_set (p := fun b : Bkt => decide (b.st = 2)) (a := b) hk
  have hle : (if (atB bs k).st = 2 then 1 else 0) ≤ goneN bs := by
    split
    · next e =>
      refine List.countP_pos_iff.2 ⟨bs[k], List.getElem_mem hk, ?_⟩
      rw [← atB_get hk]; simpa using e
    · omega
  unfold goneN at hle ⊢
  rw [h, ← atB_get hk]
  by_cases e1 : (atB bs k).st = 2 <;> by_cases e2 : b.st = 2 <;> simp only [e1, e2, if_true, if_false, decide_true, decide_false, Bool.false_eq_true] at hle ⊢ <;> omega
/-- A label is found just where it is. -/
theorem find_mem {bs : List Bkt} (hp : pathOk bs) (hd : distinct bs) (lab : ByteArray) (hn : 0 < bs.length) : ((findB bs lab).1 = -1 ∧ ∀ j, j < bs.length → (atB bs j).st = 1 → (atB bs j).lab ≠ lab) ∨
    ∃ k : Nat, k < bs.length ∧ (findB bs lab).1 = k ∧ (atB bs k).st = 1 ∧ (atB bs k).lab = lab := by
  rcases find_hit (lab := lab) hn with h | h
  · refine .inl ⟨h, fun j hj hu e => ?_⟩
    have := find_of hp hd hj hu
    rw [e] at this
    omega
  · exact .inr h
theorem room_path {bs : List Bkt} {lab : ByteArray} {k : Nat} (hk : (findB bs lab).2 = k) (hn : 0 < bs.length) : ∃ i, i < bs.length ∧ placeN bs.length (homeN lab bs.length) i = k ∧ ∀ i', i' < i → (atB bs (placeN bs.length (homeN lab bs.length) i')).st ≠ 0 := by
  rcases scan_room (lab := lab) (home := homeN lab bs.length) hn bs.length 0 (-1) (.inl rfl) with ⟨g, _⟩ | ⟨_, ⟨g1, g2⟩ | ⟨i, g1, g2, g3, g4, g5⟩⟩
  · omega
  · unfold findB at hk; omega
  · refine ⟨i, by omega, ?_, fun i' hi' => ?_⟩
    · unfold findB at hk; omega
    · have := g5 i' (by omega) hi'
      show (bs.getD _ .free).st ≠ 0
      omega
/-- A store that is right, but for how full it is. -/
structure Right0 (s : Sto) : Prop where
  size : sizeB s.bs.length = true
  may : ∀ j, j < s.bs.length → mayB (atB s.bs j) = true
  path : pathOk s.bs
  dist : distinct s.bs
  many : (usedN s.bs : Int) = s.many
  gone : (goneN s.bs : Int) = s.gone
theorem RightI.r0 {s : Sto} (h : RightI s) : Right0 s := ⟨h.size, h.may, h.path, h.dist, h.many, h.gone⟩
theorem Right0.full {s : Sto} (h : Right0 s) (hl : 4 * (s.many + s.gone) ≤ 3 * s.bs.length) : RightI s := ⟨h.size, h.may, h.path, h.dist, h.many, h.gone, hl⟩
def setOf (s : Sto) (k : Nat) (lab cell : ByteArray) : Sto := ⟨s.bs.set k ⟨1, lab, cell⟩, s.many + 1, if (atB s.bs k).st = 2 then s.gone - 1 else s.gone⟩
theorem mayB_used {lab cell : ByteArray} (hl : lab.size = 16) (hc : cell.size = 40) : mayB ⟨1, lab, cell⟩ = true := by simp [mayB, hl, hc]
theorem set_right {s : Sto} {lab cell : ByteArray} {k : Nat} (h : Right0 s) (hl : lab.size = 16) (hc : cell.size = 40) (hnew : ∀ j, j < s.bs.length → (atB s.bs j).st = 1 → (atB s.bs j).lab ≠ lab) (hk : k < s.bs.length) (hr : (findB s.bs lab).2 = k) (hu : (atB s.bs k).st ≠ 1) : Right0 (setOf s k lab cell) := by
  have hn : 0 < s.bs.length := by omega
  refine ⟨?_, fun j hj => ?_, ?_, ?_, ?_, ?_⟩
  · simp only [setOf, List.length_set]; exact h.size
  · simp only [setOf, List.length_set] at hj
    simp only [setOf]
    rw [atB_set hk]
    split
    · exact mayB_used hl hc
    · exact h.may j hj
  · exact path_set h.path hk (by simp) (fun _ => room_path hr hn)
  · exact distinct_set h.dist hk (fun _ j hj _ hu' => hnew j hj hu')
  · simp only [setOf]
    rw [usedN_set _ hk, if_neg hu, if_pos rfl, h.many]; omega
  · simp only [setOf]
    rw [goneN_set _ hk, h.gone]
    simp only [show ((1 : Int) = 2) = False by simp]
    split <;> simp
theorem del_right {s : Sto} {k : Nat} (h : RightI s) (hk : k < s.bs.length) (hu : (atB s.bs k).st = 1) : RightI ⟨s.bs.set k ⟨2, ⟨#[]⟩, ⟨#[]⟩⟩, s.many - 1, s.gone + 1⟩ := by
  refine ⟨?_, fun j hj => ?_, ?_, ?_, ?_, ?_, ?_⟩
  · simp only [List.length_set]; exact h.size
  · simp only [List.length_set] at hj
    simp only
    rw [atB_set hk]
    split
    · simp [mayB]
    · exact h.may j hj
  · exact path_set h.path hk (by simp) (fun e => by simp at e)
  · exact distinct_set h.dist hk (fun e => by simp at e)
  · simp only
    rw [usedN_set _ hk, if_pos hu, if_neg (by simp), h.many]; omega
  · simp only
    rw [goneN_set _ hk, if_neg (by omega), if_pos rfl, h.gone]; omega
  · simp only [List.length_set]
    have := h.load
    omega
theorem over_right {s : Sto} {k : Nat} {cell : ByteArray} (h : RightI s) (hc : cell.size = 40) (hk : k < s.bs.length) (hu : (atB s.bs k).st = 1) : RightI ⟨s.bs.set k { atB s.bs k with cell := cell }, s.many, s.gone⟩ := by
  have hm := h.may k hk
  refine ⟨?_, fun j hj => ?_, ?_, ?_, ?_, ?_, ?_⟩
  · simp only [List.length_set]; exact h.size
  · simp only [List.length_set] at hj
    simp only
    rw [atB_set hk]
    split
    · unfold mayB at hm ⊢
      rw [if_pos hu] at hm
      rw [if_pos (show ({ atB s.bs k with cell := cell } : Bkt).st = 1 from hu)]
      simp only [Bool.and_eq_true, decide_eq_true_eq] at hm ⊢
      exact ⟨hm.1, by omega⟩
    · exact h.may j hj
  · exact path_set h.path hk (by simp only; omega) (fun e => h.path k hk hu)
  · exact distinct_set h.dist hk (fun _ j hj hne hu' e => hne (h.dist j k hj hk hu' hu e))
  · simp only
    have := h.many
    rw [usedN_set _ hk]
    simp only [hu, if_true]; omega
  · simp only
    have := h.gone
    rw [goneN_set _ hk]
    simp only [hu, show ((1 : Int) = 2) = False by simp, if_false]; omega
  · simp only [List.length_set]; exact h.load
end Go.Proofs.Ythijmjglpcljcaa.Sy
