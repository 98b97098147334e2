/- Sets of words, in plain words: in order, each once; the same for lists that have the same words. -/
import Derived.Test.YtpmjnggkhjjiaaaWordsHelp
import Derived.Test.YtpmjnggkhjjiaaaAx7
namespace Go.Proofs.Ytpmjnggkhjjiaaa.A
open Go.RowKit Go.Proofs.YtpmjnggkhjjiaaaW.PrintWords Go.Proofs.YtpmjnggkhjjiaaaW.PrintLast Go.Proofs.YtpmjnggkhjjiaaaW.PrintMore
set_option linter.unusedVariables false
set_option linter.unusedSimpArgs false

abbrev LB := List UInt8
theorem lb_inj {a b : LB} (h : lb a = lb b) : a = b := by rw [← bl_lb a, ← bl_lb b, h]
theorem bl_inj {a b : ByteArray} (h : bl a = bl b) : a = b := by rw [← lb_bl a, ← lb_bl b, h]
theorem bl_toList (s : ByteArray) : s.toList = bl s := toList_data s
/-- The order of texts that the code uses is the order of their bytes' lists. -/
theorem less_lt : ∀ a b : LB, Op.bytesLess a b = decide (a < b)
  | [], [] => rfl
  | [], y :: b => by simp [Op.bytesLess]
  | x :: a, [] => by simp [Op.bytesLess]
  | x :: a, y :: b => by
    rw [Bool.eq_iff_iff]
    simp only [Op.bytesLess, less_lt a b, Bool.or_eq_true, Bool.and_eq_true, decide_eq_true_eq, beq_iff_eq, List.cons_lt_cons_iff]

theorem sorted_perm (l : List LB) : (sorted l).Perm l := List.mergeSort_perm _ _
theorem sorted_le (l : List LB) : (sorted l).Pairwise (· ≤ ·) := by
  have h := List.pairwise_mergeSort (le := fun x y : LB => decide (x ≤ y)) (fun a b c h1 h2 => by
    simp only [decide_eq_true_eq] at *; exact List.le_trans h1 h2) (fun a b => by
    rcases List.le_total a b with h | h <;> simp [h]) l
  exact h.imp (fun h => by simpa using h)

theorem upTo_zero (d : Array LB) : Lib.compactUpTo d 0 = [] := rfl
theorem upTo_mem (d : Array LB) (hd : ∀ i j, i < j → j < d.size → d[i]! ≤ d[j]!) : ∀ m, m ≤ d.size → ∀ x, x ∈ Lib.compactUpTo d m ↔ ∃ j, j < m ∧ d[j]! = x
  | 0, _, x => by simp [upTo_zero]
  | m + 1, hm, x => by
    rw [Lib.compactUpTo_succ, List.mem_append, upTo_mem d hd m (by omega) x]
    constructor
    · rintro (⟨j, h1, h2⟩ | h)
      · exact ⟨j, by omega, h2⟩
      · split at h
        · exact ⟨m, by omega, (List.mem_singleton.1 h).symm⟩
        · simp at h
    · rintro ⟨j, h1, h2⟩
      by_cases hj : j < m
      · exact .inl ⟨j, hj, h2⟩
      · obtain rfl : j = m := by omega
        by_cases hk : Lib.keeps d j = true
        · right; rw [if_pos hk]; simp [h2]
        · have : ¬ (j = 0 ∨ d[j]! ≠ d[j - 1]!) := by simpa [Lib.keeps] using hk
          have h0 : j ≠ 0 := fun e => this (.inl e)
          have h3 : d[j]! = d[j - 1]! := Classical.byContradiction fun e => this (.inr e)
          exact .inl ⟨j - 1, by omega, by rw [← h3]; exact h2⟩
theorem upTo_lt (d : Array LB) (hd : ∀ i j, i < j → j < d.size → d[i]! ≤ d[j]!) : ∀ m, m ≤ d.size → (Lib.compactUpTo d m).Pairwise (· < ·)
  | 0, _ => by rw [upTo_zero]; exact List.Pairwise.nil
  | m + 1, hm => by
    rw [Lib.compactUpTo_succ]
    by_cases hk : Lib.keeps d m = true
    · rw [if_pos hk, List.pairwise_append]
      refine ⟨upTo_lt d hd m (by omega), List.pairwise_singleton _ _, fun a ha b hb => ?_⟩
      rw [List.mem_singleton.1 hb]
      obtain ⟨j, hj, rfl⟩ := (upTo_mem d hd m (by omega) a).1 ha
      have h0 : m ≠ 0 := by omega
      have hne : d[m]! ≠ d[m - 1]! := by
        have : m = 0 ∨ d[m]! ≠ d[m - 1]! := by simpa [Lib.keeps] using hk
        rcases this with h | h
        · exact absurd h h0
        · exact h
      have h1 : d[j]! ≤ d[m - 1]! := by
        by_cases e : j = m - 1
        · subst e; exact List.le_refl _
        · exact hd j (m - 1) (by omega) (by omega)
      have h2 : d[m - 1]! ≤ d[m]! := hd (m - 1) m (by omega) (by omega)
      refine Classical.byContradiction fun hn => ?_
      have h3 : d[m]! ≤ d[j]! := List.not_lt.1 hn
      exact hne (List.le_antisymm (List.le_trans h3 h1) h2)
    · rw [if_neg hk, List.append_nil]; exact upTo_lt d hd m (by omega)
theorem compact_facts (zs : List LB) (h : zs.Pairwise (· ≤ ·)) : (Lib.compact zs).Pairwise (· < ·) ∧ ∀ x, x ∈ Lib.compact zs ↔ x ∈ zs := by
  have hg : ∀ j, (hj : j < zs.length) → zs.toArray[j]! = zs[j] := fun j hj => by rw [getElem!_pos zs.toArray j (by simpa using hj)]; simp
  have hd : ∀ i j, i < j → j < zs.toArray.size → zs.toArray[i]! ≤ zs.toArray[j]! := fun i j hij hj => by
    have hj' : j < zs.length := by simpa using hj
    rw [hg i (by omega), hg j hj']
    exact List.pairwise_iff_getElem.1 h i j (by omega) hj' hij
  have hz : zs.length ≤ zs.toArray.size := by simp
  unfold Lib.compact
  refine ⟨upTo_lt _ hd _ hz, fun x => ?_⟩
  rw [upTo_mem _ hd _ hz]
  constructor
  · rintro ⟨j, h1, h2⟩
    rw [hg j h1] at h2
    rw [← h2]; exact List.getElem_mem _
  · intro hx
    obtain ⟨j, hj, rfl⟩ := List.getElem_of_mem hx
    exact ⟨j, hj, hg j hj⟩
/-- Strictly rising lists that have the same elements are the same. -/
theorem rising_eq {a b : List LB} (ha : a.Pairwise (· < ·)) (hb : b.Pairwise (· < ·)) (h : ∀ x, x ∈ a ↔ x ∈ b) : a = b := by
  have na : a.Nodup := ha.imp (fun h e => by subst e; exact List.lt_irrefl _ h)
  have nb : b.Nodup := hb.imp (fun h e => by subst e; exact List.lt_irrefl _ h)
  have hp : a.Perm b := by
    rw [List.perm_iff_count]
    intro x
    by_cases hx : x ∈ a
    · rw [na.count, nb.count, if_pos hx, if_pos ((h x).1 hx)]
    · rw [List.count_eq_zero_of_not_mem hx, List.count_eq_zero_of_not_mem (fun e => hx ((h x).2 e))]
  exact List.Perm.eq_of_pairwise (le := (· < ·)) (fun x y _ _ h1 h2 => absurd (List.lt_trans h1 h2) (List.lt_irrefl _)) ha hb hp

theorem onceOf_mem (l : List ByteArray) (w : ByteArray) : w ∈ onceOf l ↔ w ∈ l := by
  unfold onceOf
  obtain ⟨_, h⟩ := compact_facts _ (sorted_le (l.map bl))
  constructor
  · intro hw
    obtain ⟨x, hx, rfl⟩ := List.mem_map.1 hw
    rw [h, (sorted_perm _).mem_iff] at hx
    obtain ⟨v, hv, rfl⟩ := List.mem_map.1 hx
    rw [lb_bl]; exact hv
  · intro hw
    refine List.mem_map.2 ⟨bl w, ?_, lb_bl w⟩
    rw [h, (sorted_perm _).mem_iff]
    exact List.mem_map.2 ⟨w, hw, rfl⟩
theorem onceOf_bl (l : List ByteArray) : (onceOf l).map bl = Lib.compact (sorted (l.map bl)) := by
  unfold onceOf
  rw [List.map_map]
  have : (bl ∘ lb) = id := by funext x; exact bl_lb x
  rw [this, List.map_id]
theorem onceOf_rising (l : List ByteArray) : ((onceOf l).map bl).Pairwise (· < ·) := by
  rw [onceOf_bl]; exact (compact_facts _ (sorted_le (l.map bl))).1
/-- What is rising and has the same words as l is l's set. -/
theorem onceOf_unique {l r : List ByteArray} (hr : (r.map bl).Pairwise (· < ·)) (h : ∀ w, w ∈ r ↔ w ∈ l) : r = onceOf l := by
  have e : r.map bl = (onceOf l).map bl := by
    refine rising_eq hr (onceOf_rising l) (fun x => ?_)
    constructor
    · intro hx
      obtain ⟨w, hw, rfl⟩ := List.mem_map.1 hx
      exact List.mem_map.2 ⟨w, (onceOf_mem l w).2 ((h w).1 hw), rfl⟩
    · intro hx
      obtain ⟨w, hw, rfl⟩ := List.mem_map.1 hx
      exact List.mem_map.2 ⟨w, (h w).2 ((onceOf_mem l w).1 hw), rfl⟩
  have e2 := congrArg (List.map lb) e
  rw [List.map_map, List.map_map] at e2
  have : (lb ∘ bl) = id := by funext x; exact lb_bl x
  rw [this, List.map_id, List.map_id] at e2
  exact e2
theorem onceOf_same {l m : List ByteArray} (h : ∀ w, w ∈ l ↔ w ∈ m) : onceOf l = onceOf m :=
  onceOf_unique (onceOf_rising l) (fun w => (onceOf_mem l w).trans (h w))
theorem onceOf_nodup (l : List ByteArray) : (onceOf l).Nodup := by
  have h := onceOf_rising l
  rw [List.pairwise_map] at h
  exact h.imp (fun h e => by subst e; exact List.lt_irrefl _ h)
theorem onceOf_length_le {l m : List ByteArray} (h : ∀ w ∈ l, w ∈ m) : (onceOf l).length ≤ m.length :=
  List.Nodup.length_le_of_subset (onceOf_nodup l) (fun w hw => h w ((onceOf_mem l w).1 hw))

/-! In. -/
instance baDec : DecidableEq ByteArray := fun a b => decidable_of_iff (a.data.toList = b.data.toList) ⟨ba_ext, fun h => by rw [h]⟩
instance memDec (s : ByteArray) (l : List ByteArray) : Decidable (s ∈ l) := @List.instDecidableMemOfLawfulBEq ByteArray instBEqOfDecidableEq _ s l
theorem in_loop (l : List ByteArray) (s : ByteArray) (hl : l.length ≤ 4096) : ∀ (d : Nat) (i : Int) (k : Nat), 0 ≤ i → (l.length : Int) - i = d → d + 1 ≤ k →
    columbariumref16_In.l0 k l s i = some (decide (s ∈ l.drop i.toNat))
  | 0, i, k, h0, hd, hk => by
    obtain ⟨k, rfl⟩ : ∃ m, k = m + 1 := ⟨k - 1, by omega⟩
    unfold columbariumref16_In.l0
    rw [if_neg (by omega), List.drop_eq_nil_of_le (by omega)]
    simp
  | d + 1, i, k, h0, hd, hk => by
    obtain ⟨k, rfl⟩ : ∃ m, k = m + 1 := ⟨k - 1, by omega⟩
    have hi : i.toNat < l.length := by omega
    have he : rdOf ByteArray.empty l i = l[i.toNat] := by
      unfold rdOf; rw [List.getD_eq_getElem?_getD, List.getElem?_eq_getElem hi]; rfl
    have hd1 : l.drop i.toNat = l[i.toNat] :: l.drop (i + 1).toNat := by
      rw [show (i + 1).toNat = i.toNat + 1 by omega]; exact List.drop_eq_getElem_cons hi
    unfold columbariumref16_In.l0
    rw [if_pos (by omega), if_pos h0, he, wrap64_id (by omega) (by omega), in_loop l s hl d (i + 1) k (by omega) (by omega) (by omega), hd1]
    by_cases c : l[i.toNat] = s
    · rw [if_pos (by rw [c])]; simp [c]
    · rw [if_neg (fun e => c (toList_inj e))]
      congr 1
      simp only [List.mem_cons, decide_eq_decide]
      constructor
      · exact .inr
      · rintro (h | h)
        · exact absurd h.symm c
        · exact h
theorem in_eq (l : List ByteArray) (s : ByteArray) (k : Nat) (hl : l.length ≤ 4096) (hk : 4100 ≤ k) : columbariumref16_In.f k l s = some (decide (s ∈ l)) := by
  unfold columbariumref16_In.f
  rw [in_loop l s hl l.length 0 k (by omega) (by omega) (by omega)]
  rfl
theorem set_le {s : ByteArray} (h : s.size ≤ 2000) (h2 : (setOf s).length ≤ 12) : words_Set.f s = some (setOf s, 0) := by
  unfold words_Set.f; rw [if_neg (by omega), if_neg (by omega)]
end Go.Proofs.Ytpmjnggkhjjiaaa.A
