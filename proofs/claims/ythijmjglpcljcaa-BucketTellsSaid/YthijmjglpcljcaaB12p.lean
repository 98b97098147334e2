/- Layer 12: what find tells. -/
import Derived.Test.YthijmjglpcljcaaB12e
namespace Go.Proofs.Ythijmjglpcljcaa.Sy
open Go Go.RowKit
set_option linter.unusedVariables false
set_option linter.unusedSimpArgs false
theorem place_lt {n home i : Nat} (h : 0 < n) : placeN n home i < n := Nat.mod_lt _ h
/-- Every place is on every way. -/
theorem place_onto {n home j : Nat} (hj : j < n) : ∃ i, i < n ∧ placeN n home i = j := by
  refine ⟨(j + n - home % n) % n, Nat.mod_lt _ (by omega), ?_⟩
  have h1 : home % n < n := Nat.mod_lt _ (by omega)
  unfold placeN
  rw [Nat.add_mod, Nat.mod_mod]
  by_cases h : home % n ≤ j
  · have e : (j + n - home % n) % n = j - home % n := by
      rw [show j + n - home % n = (j - home % n) + n by omega, Nat.add_mod_right, Nat.mod_eq_of_lt (by omega)]
    rw [e, show home % n + (j - home % n) = j by omega, Nat.mod_eq_of_lt hj]
  · have e : (j + n - home % n) % n = j + n - home % n := Nat.mod_eq_of_lt (by omega)
    rw [e, show home % n + (j + n - home % n) = j + n by omega, Nat.add_mod_right, Nat.mod_eq_of_lt hj]
/-- What a scan tells when it tells a place. -/
theorem scan_hit {bs : List Bkt} {lab : ByteArray} {home : Nat} (hn : 0 < bs.length) : ∀ (m i : Nat) (room : Int), (scanB bs lab home m i room).1 = -1 ∨
    ∃ i', i ≤ i' ∧ i' < i + m ∧ (scanB bs lab home m i room).1 = (placeN bs.length home i' : Nat) ∧ (bs.getD (placeN bs.length home i') .free).st = 1 ∧ (bs.getD (placeN bs.length home i') .free).lab = lab ∧
      ∀ i'', i ≤ i'' → i'' < i' → (bs.getD (placeN bs.length home i'') .free).st ≠ 0 ∧ ¬ ((bs.getD (placeN bs.length home i'') .free).st = 1 ∧ (bs.getD (placeN bs.length home i'') .free).lab = lab)
  | 0, i, room => .inl rfl
  | m + 1, i, room => by
    rw [scanB_succ bs lab home m i room rfl]
    obtain ⟨b, hb⟩ : ∃ b, bs.getD (placeN bs.length home i) .free = b := ⟨_, rfl⟩
    have step : ∀ r, b.st ≠ 0 → ¬ (b.st = 1 ∧ b.lab = lab) → (scanB bs lab home m (i + 1) r).1 = -1 ∨
        ∃ i', i ≤ i' ∧ i' < i + (m + 1) ∧ (scanB bs lab home m (i + 1) r).1 = (placeN bs.length home i' : Nat) ∧ (bs.getD (placeN bs.length home i') .free).st = 1 ∧ (bs.getD (placeN bs.length home i') .free).lab = lab ∧
          ∀ i'', i ≤ i'' → i'' < i' → (bs.getD (placeN bs.length home i'') .free).st ≠ 0 ∧ ¬ ((bs.getD (placeN bs.length home i'') .free).st = 1 ∧ (bs.getD (placeN bs.length home i'') .free).lab = lab) := by
      intro r g1 g2
      rcases scan_hit hn m (i + 1) r with h | ⟨i', h1, h2, h3, h4, h5, h6⟩
      · exact .inl h
      · refine .inr ⟨i', by omega, by omega, h3, h4, h5, fun i'' k1 k2 => ?_⟩
        by_cases e : i'' = i
        · subst e; rw [hb]; exact ⟨g1, g2⟩
        · exact h6 i'' (by omega) k2
    rw [hb]
    by_cases c1 : b.st = 1
    · by_cases c2 : b.lab = lab
      · rw [if_pos c1, if_pos c2]
        exact .inr ⟨i, Nat.le_refl _, by omega, rfl, by rw [hb]; exact c1, by rw [hb]; exact c2, fun i'' k1 k2 => by omega⟩
      · rw [if_pos c1, if_neg c2]
        exact step _ (by omega) (fun h => c2 h.2)
    · rw [if_neg c1]
      by_cases c3 : b.st = 0
      · rw [if_pos c3]; exact .inl rfl
      · rw [if_neg c3]
        exact step _ c3 (fun h => c1 h.1)
/-- A scan that tells no place: the label is not ahead of the first Free one. -/
theorem scan_miss {bs : List Bkt} {lab : ByteArray} {home : Nat} (hn : 0 < bs.length) : ∀ (m i : Nat) (room : Int), (scanB bs lab home m i room).1 = -1 →
    ∀ i', i ≤ i' → i' < i + m → (bs.getD (placeN bs.length home i') .free).st = 1 → (bs.getD (placeN bs.length home i') .free).lab = lab → ∃ i'', i ≤ i'' ∧ i'' < i' ∧ (bs.getD (placeN bs.length home i'') .free).st = 0
  | 0, i, room, _, i', h1, h2, _, _ => by omega
  | m + 1, i, room, h, i', h1, h2, h3, h4 => by
    rw [scanB_succ bs lab home m i room rfl] at h
    obtain ⟨b, hb⟩ : ∃ b, bs.getD (placeN bs.length home i) .free = b := ⟨_, rfl⟩
    rw [hb] at h
    have step : ∀ r, (scanB bs lab home m (i + 1) r).1 = -1 → ¬ (b.st = 1 ∧ b.lab = lab) → ∃ i'', i ≤ i'' ∧ i'' < i' ∧ (bs.getD (placeN bs.length home i'') .free).st = 0 := by
      intro r g hne
      by_cases e : i' = i
      · subst e; rw [hb] at h3 h4; exact absurd ⟨h3, h4⟩ hne
      · obtain ⟨i'', k1, k2, k3⟩ := scan_miss hn m (i + 1) r g i' (by omega) (by omega) h3 h4
        exact ⟨i'', by omega, k2, k3⟩
    by_cases c1 : b.st = 1
    · by_cases c2 : b.lab = lab
      · rw [if_pos c1, if_pos c2] at h
        simp only at h
        omega
      · rw [if_pos c1, if_neg c2] at h
        exact step _ h (fun h => c2 h.2)
    · rw [if_neg c1] at h
      by_cases c3 : b.st = 0
      · by_cases e : i' = i
        · subst e; rw [hb] at h3; omega
        · exact ⟨i, Nat.le_refl _, by omega, by rw [hb]; exact c3⟩
      · rw [if_neg c3] at h
        exact step _ h (fun h => c1 h.1)
/-- The room that a scan tells: the first place that is not Used, up to the first Free one. -/
theorem scan_room {bs : List Bkt} {lab : ByteArray} {home : Nat} (hn : 0 < bs.length) : ∀ (m i : Nat) (room : Int), (room = -1 ∨ 0 ≤ room) →
    (0 ≤ room ∧ (scanB bs lab home m i room).2 = room) ∨ (room = -1 ∧ ((scanB bs lab home m i room).2 = -1 ∧ (∀ i', i ≤ i' → i' < i + m → (scanB bs lab home m i room).1 = -1 → (bs.getD (placeN bs.length home i') .free).st = 1) ∨
      ∃ i', i ≤ i' ∧ i' < i + m ∧ (scanB bs lab home m i room).2 = (placeN bs.length home i' : Nat) ∧ (bs.getD (placeN bs.length home i') .free).st ≠ 1 ∧ ∀ i'', i ≤ i'' → i'' < i' → (bs.getD (placeN bs.length home i'') .free).st = 1))
  | 0, i, room, h => by
    rcases h with h | h
    · exact .inr ⟨h, .inl ⟨h, fun i' h1 h2 => by omega⟩⟩
    · exact .inl ⟨h, rfl⟩
  | m + 1, i, room, h => by
    rw [scanB_succ bs lab home m i room rfl]
    obtain ⟨b, hb⟩ : ∃ b, bs.getD (placeN bs.length home i) .free = b := ⟨_, rfl⟩
    rw [hb]
    by_cases c1 : b.st = 1
    · rw [if_pos c1]
      by_cases c2 : b.lab = lab
      · rw [if_pos c2]
        rcases h with h | h
        · exact .inr ⟨h, .inl ⟨h, fun i' _ _ h' => by simp only at h'; omega⟩⟩
        · exact .inl ⟨h, rfl⟩
      · rw [if_neg c2]
        rcases scan_room hn m (i + 1) room h with g | ⟨g, g'⟩
        · exact .inl g
        · refine .inr ⟨g, ?_⟩
          rcases g' with ⟨g1, g2⟩ | ⟨i', g1, g2, g3, g4, g5⟩
          · refine .inl ⟨g1, fun i' h1 h2 h3 => ?_⟩
            by_cases e : i' = i
            · subst e; rw [hb]; exact c1
            · exact g2 i' (by omega) (by omega) h3
          · refine .inr ⟨i', by omega, by omega, g3, g4, fun i'' k1 k2 => ?_⟩
            by_cases e : i'' = i
            · subst e; rw [hb]; exact c1
            · exact g5 i'' (by omega) k2
    · rw [if_neg c1]
      have hr : (if room < 0 then (placeN bs.length home i : Int) else room) = -1 ∨ 0 ≤ (if room < 0 then (placeN bs.length home i : Int) else room) := by
        split <;> omega
      have key : ∀ p : Int × Int, p.2 = (if room < 0 then (placeN bs.length home i : Int) else room) →
          (0 ≤ room ∧ p.2 = room) ∨ (room = -1 ∧ (p.2 = -1 ∧ (∀ i', i ≤ i' → i' < i + (m + 1) → p.1 = -1 → (bs.getD (placeN bs.length home i') .free).st = 1) ∨
          ∃ i', i ≤ i' ∧ i' < i + (m + 1) ∧ p.2 = (placeN bs.length home i' : Nat) ∧ (bs.getD (placeN bs.length home i') .free).st ≠ 1 ∧ ∀ i'', i ≤ i'' → i'' < i' → (bs.getD (placeN bs.length home i'') .free).st = 1)) := by
        intro p hp
        by_cases c : room < 0
        · rw [if_pos c] at hp
          exact .inr ⟨by omega, .inr ⟨i, Nat.le_refl _, by omega, hp, by rw [hb]; exact c1, fun i'' k1 k2 => by omega⟩⟩
        · rw [if_neg c] at hp
          exact .inl ⟨by omega, hp⟩
      by_cases c3 : b.st = 0
      · rw [if_pos c3]; exact key _ rfl
      · rw [if_neg c3]
        refine key _ ?_
        rcases scan_room hn m (i + 1) _ hr with ⟨_, g⟩ | ⟨g, _⟩
        · exact g
        · split at g <;> omega
/-- The place that find tells holds the label. -/
theorem find_hit {bs : List Bkt} {lab : ByteArray} (hn : 0 < bs.length) : (findB bs lab).1 = -1 ∨ ∃ k : Nat, k < bs.length ∧ (findB bs lab).1 = k ∧ (bs.getD k .free).st = 1 ∧ (bs.getD k .free).lab = lab := by
  rcases scan_hit (lab := lab) (home := homeN lab bs.length) hn bs.length 0 (-1) with h | ⟨i', h1, h2, h3, h4, h5, _⟩
  · exact .inl h
  · exact .inr ⟨_, place_lt hn, h3, h4, h5⟩
/-- Where not all is Used there is room. -/
theorem find_room {bs : List Bkt} {lab : ByteArray} (hu : usedN bs < bs.length) (h : (findB bs lab).1 = -1) : ∃ k : Nat, k < bs.length ∧ (findB bs lab).2 = k ∧ (bs.getD k .free).st ≠ 1 := by
  have hn : 0 < bs.length := by omega
  rcases scan_room (lab := lab) (home := homeN lab bs.length) hn bs.length 0 (-1) (.inl rfl) with ⟨g, _⟩ | ⟨_, ⟨g1, g2⟩ | ⟨i', g1, g2, g3, g4, g5⟩⟩
  · omega
  · exfalso
    have hall : ∀ b ∈ bs, decide (b.st = 1) = true := by
      intro b hb
      obtain ⟨j, hj, e⟩ := List.mem_iff_getElem.1 hb
      obtain ⟨i, hi, ei⟩ := place_onto (home := homeN lab bs.length) hj
      have := g2 i (by omega) (by omega) h
      rw [ei, List.getD_eq_getElem?_getD, List.getElem?_eq_getElem hj, e] at this
      simpa using this
    have := List.countP_eq_length.2 hall
    unfold usedN at hu
    omega
  · exact ⟨_, place_lt hn, g3, g4⟩
end Go.Proofs.Ythijmjglpcljcaa.Sy
