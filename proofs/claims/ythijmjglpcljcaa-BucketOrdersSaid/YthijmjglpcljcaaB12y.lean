/- Layer 12: lists by labels. -/
import Derived.Test.YthijmjglpcljcaaB12w
import Derived.Sort.Walk0
namespace Go.Proofs.Ythijmjglpcljcaa.Sy
open Go Go.RowKit Go.Sort
set_option linter.unusedVariables false
set_option linter.unusedSimpArgs false
theorem ltB_eq (x y : ByteArray) : ltB x y = decide (x.toList < y.toList) := bytesLess_eq _ _
theorem toList_inj {x y : ByteArray} (h : x.toList = y.toList) : x = y := by
  rw [Lib.toList_data, Lib.toList_data] at h
  exact ByteArray.ext (Array.toList_inj.1 h)
theorem ltB_irrefl (x : ByteArray) : ltB x x = false := by rw [ltB_eq]; simp [List.lt_irrefl]
theorem ltB_trans {x y z : ByteArray} (h1 : ltB x y = true) (h2 : ltB y z = true) : ltB x z = true := by
  rw [ltB_eq, decide_eq_true_eq] at *
  exact List.lt_trans h1 h2
theorem ltB_ntrans {x y z : ByteArray} (h1 : ltB x y = false) (h2 : ltB y z = false) : ltB x z = false := by
  rw [ltB_eq, decide_eq_false_iff_not, List.not_lt] at *
  exact List.le_trans h2 h1
theorem ltB_total {x y : ByteArray} (h1 : ltB x y = false) (h2 : ltB y x = false) : x = y := by
  rw [ltB_eq, decide_eq_false_iff_not, List.not_lt] at *
  exact toList_inj (List.le_antisymm h2 h1)
theorem gtB_iff (x y : ByteArray) : gtB x y = true ↔ ltB y x = true := by
  unfold gtB
  constructor
  · intro h
    simp only [Bool.and_eq_true, Bool.not_eq_true', decide_eq_false_iff_not] at h
    cases h2 : ltB y x with
    | true => rfl
    | false => exact absurd (ltB_total h.1 h2) h.2
  · intro h
    simp only [Bool.and_eq_true, Bool.not_eq_true', decide_eq_false_iff_not]
    constructor
    · cases h2 : ltB x y with
      | false => rfl
      | true => have := ltB_trans h h2; rw [ltB_irrefl] at this; cases this
    · rintro rfl
      rw [ltB_irrefl] at h; cases h
theorem gtB_false {x y : ByteArray} (h : gtB x y = false) (hne : x ≠ y) : ltB x y = true := by
  unfold gtB at h
  cases h2 : ltB x y with
  | true => rfl
  | false => rw [h2] at h; simp [hne] at h
theorem ltOf_cfP (x y : ByteArray × ByteArray) : ltOf cfP x y = ltB x.1 y.1 := by
  unfold ltOf cfP cmpS
  cases ltB x.1 y.1 with
  | true => simp
  | false => cases gtB x.1 y.1 <;> simp
theorem swoP : SWO (ltOf cfP) where
  irrefl x := by rw [ltOf_cfP, ltB_irrefl]
  trans x y z h1 h2 := by rw [ltOf_cfP] at *; exact ltB_trans h1 h2
  ntrans x y z h1 h2 := by rw [ltOf_cfP] at *; exact ltB_ntrans h1 h2
/-- By labels, each once. -/
def byLab (l : Prs) : Prop := l.Pairwise fun a b => ltB a.1 b.1 = true
theorem insP_perm (l : Prs) (p : ByteArray × ByteArray) : (insP l p).Perm (p :: l) := by
  unfold insP
  refine (List.perm_middle).trans ?_
  rw [List.take_append_drop]
theorem posP_gt (l : Prs) (lab : ByteArray) : ∀ n, n ≤ l.length → ∀ i (h : i < l.length), posP l lab n ≤ i → i < n → gtB l[i].1 lab = true
  | 0, _, i, h, h1, h2 => by omega
  | n + 1, hn, i, h, h1, h2 => by
    have hn' : n < l.length := by omega
    unfold posP at h1
    rw [List.getD_eq_getElem?_getD, List.getElem?_eq_getElem hn', Option.getD_some] at h1
    split at h1
    · next hg =>
      by_cases e : i = n
      · subst e; exact hg
      · exact posP_gt l lab n (by omega) i h h1 (by omega)
    · omega
theorem posP_ngt (l : Prs) (lab : ByteArray) : ∀ n, n ≤ l.length → ∀ q, posP l lab n = q + 1 → ∀ (h : q < l.length), gtB l[q].1 lab = false
  | 0, _, q, hq, _ => by simp [posP] at hq
  | n + 1, hn, q, hq, h => by
    have hn' : n < l.length := by omega
    unfold posP at hq
    rw [List.getD_eq_getElem?_getD, List.getElem?_eq_getElem hn', Option.getD_some] at hq
    split at hq
    · exact posP_ngt l lab n (by omega) q hq h
    · next hg =>
      obtain rfl : q = n := by omega
      simpa using hg
theorem insP_sorted {l : Prs} {p : ByteArray × ByteArray} (h : byLab l) (hne : ∀ x ∈ l, x.1 ≠ p.1) : byLab (insP l p) := by
  have hgt := posP_gt l p.1 l.length (Nat.le_refl _)
  have hle := posP_le l p.1 l.length
  have hng := posP_ngt l p.1 l.length (Nat.le_refl _)
  obtain ⟨q, hq⟩ : ∃ q, posP l p.1 l.length = q := ⟨_, rfl⟩
  have hdrop : ∀ x ∈ l.drop q, ltB p.1 x.1 = true := by
    intro x hx
    obtain ⟨i, hi, e⟩ := List.getElem_of_mem hx
    rw [List.length_drop] at hi
    rw [List.getElem_drop] at e
    have := hgt (q + i) (by omega) (by omega) (by omega)
    rw [e] at this
    exact (gtB_iff _ _).1 this
  have htake : ∀ x ∈ l.take q, ltB x.1 p.1 = true := by
    intro x hx
    obtain ⟨i, hi, e⟩ := List.getElem_of_mem hx
    rw [List.length_take] at hi
    rw [List.getElem_take] at e
    cases q with
    | zero => omega
    | succ r =>
      have hr : r < l.length := by omega
      have h1 := gtB_false (hng r hq hr) (hne _ (List.getElem_mem hr))
      by_cases e2 : i = r
      · subst e2; rw [e] at h1; exact h1
      · have := List.pairwise_iff_getElem.1 h i r (by omega) hr (by omega)
        rw [e] at this
        exact ltB_trans this h1
  have hs := List.pairwise_append.1 (by rw [List.take_append_drop]; exact h : (l.take q ++ l.drop q).Pairwise fun a b => ltB a.1 b.1 = true)
  unfold insP byLab
  rw [hq]
  refine List.pairwise_append.2 ⟨hs.1, List.pairwise_cons.2 ⟨hdrop, hs.2.1⟩, fun a ha b hb => ?_⟩
  rcases List.mem_cons.1 hb with rfl | hb
  · exact htake a ha
  · exact hs.2.2 a ha b hb
theorem ins_all : ∀ (xs l : Prs), byLab l → (xs.map (·.1)).Nodup → (∀ x ∈ xs, ∀ y ∈ l, y.1 ≠ x.1) → byLab (xs.foldl insP l) ∧ (xs.foldl insP l).Perm (xs ++ l)
  | [], l, h, _, _ => ⟨h, List.Perm.refl _⟩
  | x :: xs, l, h, hd, hne => by
    rw [List.map_cons, List.nodup_cons] at hd
    have h1 := insP_sorted (p := x) h (hne x List.mem_cons_self)
    obtain ⟨g1, g2⟩ := ins_all xs (insP l x) h1 hd.2 (fun a ha y hy e => by
      rcases List.mem_cons.1 ((insP_perm l x).mem_iff.1 hy) with rfl | hy
      · exact hd.1 (List.mem_map.2 ⟨a, ha, e.symm⟩)
      · exact hne a (List.mem_cons_of_mem _ ha) y hy e)
    refine ⟨g1, g2.trans ?_⟩
    exact ((insP_perm l x).append_left xs).trans List.perm_middle
/-- There is one list by labels of the same pairs. -/
theorem byLab_unique {l m : Prs} (hl : byLab l) (hm : ∀ i j (h1 : i < m.length) (h2 : j < m.length), i < j → ltB m[j].1 m[i].1 = false) (hp : l.Perm m) : l = m := by
  have hm' : m.Pairwise fun a b => ltB b.1 a.1 = false := List.pairwise_iff_getElem.2 fun i j h1 h2 h => hm i j h1 h2 h
  have hl' : l.Pairwise fun a b => ltB b.1 a.1 = false := hl.imp fun {a b} h => by
    cases h2 : ltB b.1 a.1 with
    | false => rfl
    | true => have := ltB_trans h h2; rw [ltB_irrefl] at this; cases this
  have hnd : ∀ a ∈ l, ∀ b ∈ l, a.1 = b.1 → a = b := by
    intro a ha b hb e
    obtain ⟨i, hi, rfl⟩ := List.getElem_of_mem ha
    obtain ⟨j, hj, rfl⟩ := List.getElem_of_mem hb
    by_cases h1 : i < j
    · have := List.pairwise_iff_getElem.1 hl i j hi hj h1
      rw [e, ltB_irrefl] at this; cases this
    · by_cases h2 : j < i
      · have := List.pairwise_iff_getElem.1 hl j i hj hi h2
        rw [e, ltB_irrefl] at this; cases this
      · obtain rfl : i = j := by omega
        rfl
  refine List.Perm.eq_of_pairwise (le := fun a b => ltB b.1 a.1 = false) (fun a b ha hb h1 h2 => hnd a ha b (hp.mem_iff.2 hb) (ltB_total h2 h1)) hl' hm' hp
end Go.Proofs.Ythijmjglpcljcaa.Sy
