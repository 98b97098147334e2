/- Layer 17: what the other laws ask, in plain words. -/
import Derived.Test.YtipolblhiljoiaaC17C
namespace Go.Proofs.Ytipolblhiljoiaa.Sy
open Go Go.RowKit
set_option linter.unusedVariables false
set_option linter.unusedSimpArgs false
theorem sort_inj {l : List DocW} (hs : sortD l) {d e : DocW} (hd : d ∈ l) (he : e ∈ l) (h : d.id = e.id) : d = e := by
  obtain ⟨i, hi, rfl⟩ := List.getElem_of_mem hd
  obtain ⟨j, hj, rfl⟩ := List.getElem_of_mem he
  have hp := List.pairwise_iff_getElem.1 hs
  rcases Nat.lt_trichotomy i j with c | c | c
  · have := hp i j hi hj c; omega
  · subst c; rfl
  · have := hp j i hj hi c; omega
theorem get_mem {l : List DocW} (hs : sortD l) {d : DocW} (hd : d ∈ l) : getD l d.id = (d, true) := by
  have hh : hasD l d.id = true := has_iff.2 ⟨d, hd, rfl⟩
  obtain ⟨k, hk, _, e2, e3⟩ := get_at hh
  rw [e2, sort_inj hs (List.getElem_mem hk) hd e3]
theorem get_none {l : List DocW} {id : Int} (h : hasD l id = false) : getD l id = (⟨0, []⟩, false) := if_neg (by rw [h]; simp)
theorem sort_nodup {l : List DocW} (hs : sortD l) : l.Nodup := hs.imp (fun h e => by subst e; omega)
theorem sort_ext {l m : List DocW} (hl : sortD l) (hm : sortD m) (h : ∀ d, d ∈ l ↔ d ∈ m) : l = m := by
  have hp : l.Perm m := by
    rw [List.perm_iff_count]
    intro x
    by_cases hx : x ∈ l
    · rw [(sort_nodup hl).count, (sort_nodup hm).count, if_pos hx, if_pos ((h x).1 hx)]
    · rw [List.count_eq_zero_of_not_mem hx, List.count_eq_zero_of_not_mem (fun e => hx ((h x).2 e))]
  exact List.Perm.eq_of_pairwise (le := fun a b : DocW => a.id < b.id) (fun x y _ _ h1 h2 => by omega) hl hm hp
theorem ins_length (l : List DocW) (d : DocW) : (insD l d).length = l.length + 1 := by
  have := posD_le l d.id
  simp [insD]; omega
theorem del_length {l : List DocW} (hs : sortD l) {id : Int} (h : hasD l id = true) : (delD l id).length + 1 = l.length := by
  obtain ⟨k, hk, _, e⟩ := find_at h
  rw [del_at hs hk e]
  simp; omega
theorem rep_length (l : List DocW) (id : Int) (ws : List ByteArray) : (repD l id ws).length = l.length := by simp [repD]
theorem mem_ins {l : List DocW} {d x : DocW} : x ∈ insD l d ↔ x ∈ l ∨ x = d := by
  unfold insD
  rw [List.mem_append, List.mem_append, List.mem_singleton]
  conv => rhs; rw [← List.take_append_drop (posD l d.id) l, List.mem_append]
  constructor
  · rintro ((h | h) | h)
    · exact .inl (.inl h)
    · exact .inr h
    · exact .inl (.inr h)
  · rintro ((h | h) | h)
    · exact .inl (.inl h)
    · exact .inr h
    · exact .inl (.inr h)
theorem mem_del {l : List DocW} {id : Int} {x : DocW} : x ∈ delD l id ↔ x.id ≠ id ∧ x ∈ l := by
  unfold delD
  rw [List.mem_filter]
  constructor
  · rintro ⟨a, b⟩; exact ⟨by simpa using b, a⟩
  · rintro ⟨a, b⟩; exact ⟨b, by simpa using a⟩
theorem mem_rep {l : List DocW} {id : Int} {ws : List ByteArray} {x : DocW} (h : hasD l id = true) : x ∈ repD l id ws ↔ (x.id ≠ id ∧ x ∈ l) ∨ x = ⟨id, ws⟩ := by
  unfold repD
  rw [List.mem_map]
  constructor
  · rintro ⟨d, hd, e⟩
    by_cases c : d.id = id
    · rw [if_pos c, c] at e; exact .inr e.symm
    · rw [if_neg c] at e; subst e; exact .inl ⟨c, hd⟩
  · rintro (⟨c, hd⟩ | rfl)
    · exact ⟨x, hd, if_neg c⟩
    · obtain ⟨d, hd, e⟩ := has_iff.1 h
      exact ⟨d, hd, by rw [if_pos e, e]⟩
/-- A change's error. -/
def errM (has : Bool) (k : Int) (s : ByteArray) : Int :=
  if k = 2 then if has = true then 0 else 22 else if (setV s).2 ≠ 0 then (setV s).2 else if k = 1 then if has = true then 21 else 0 else if has = true then 0 else 22
theorem do_chg {l : List DocW} (hr : rightD l = true) {k id : Int} {s : ByteArray} (hk : k = 1 ∨ k = 2 ∨ k = 3) (hid : 0 ≤ id ∧ id ≤ 1073741824) (hlen : l.length ≠ 40) :
    (doM l k id s).2.2 = errM (hasD l id) k s ∧ ∀ d, d ∈ (doM l k id s).1 ↔ if errM (hasD l id) k s = 0 then (d.id ≠ id ∧ d ∈ l) ∨ (k ≠ 2 ∧ d = ⟨id, (setV s).1⟩) else d ∈ l := by
  have hg : goesM l k id = true := by
    unfold goesM
    simp only [Bool.and_eq_true, Bool.or_eq_true, decide_eq_true_eq]
    exact ⟨⟨⟨hr, by omega⟩, by omega⟩, .inr hid⟩
  have hs := right_sort hr
  unfold doM errM
  rw [if_pos hg]
  rcases hk with rfl | rfl | rfl
  · by_cases h0 : (setV s).2 = 0
    · cases c : hasD l id with
      | true => simp [h0]
      | false =>
        have hn := has_false c
        simp [h0, hlen]
        intro d
        rw [mem_ins]
        constructor
        · rintro (h | h)
          · exact .inl ⟨hn d h, h⟩
          · exact .inr h
        · rintro (h | h)
          · exact .inl h.2
          · exact .inr h
    · simp [h0]
  · cases c : hasD l id with
    | true => simp; intro d; exact mem_del
    | false => simp
  · by_cases h0 : (setV s).2 = 0
    · cases c : hasD l id with
      | true => simp [h0]; intro d; exact mem_rep c
      | false => simp [h0]
    · simp [h0]
theorem do_len {l : List DocW} {k id : Int} {s : ByteArray} : (doM l k id s).1.length ≤ l.length + 1 := by
  unfold doM
  split
  · split
    · simp
    · split
      · split
        · simp only [delD]; exact Nat.le_trans (List.length_filter_le _ _) (by omega)
        · simp
      · split
        · simp
        · split
          · split
            · simp
            · split
              · simp
              · rw [ins_length]; omega
          · split
            · split
              · simp only [rep_length]; omega
              · simp
            · split
              · split <;> simp
              · split <;> simp
  · simp
theorem docs_len (rs : List RawW) : (docsV rs).length ≤ 20 := by
  unfold docsV
  have key : ∀ (xs : List RawW) (l : List DocW), (xs.foldl (fun l r => (doM l (opW r).k (opW r).id (opW r).s).1) l).length ≤ l.length + xs.length := by
    intro xs
    induction xs with
    | nil => intro l; simp
    | cons x xs ih =>
      intro l
      have h1 := ih (doM l (opW x).k (opW x).id (opW x).s).1
      have h2 := do_len (l := l) (k := (opW x).k) (id := (opW x).id) (s := (opW x).s)
      simp only [List.foldl_cons, List.length_cons]
      omega
  have := key (rs.take 20) []
  rw [List.length_take] at this
  simp only [List.length_nil] at this
  omega
theorem has_chg {l : List DocW} (hr : rightD l = true) {k id : Int} {s : ByteArray} (hk : k = 1 ∨ k = 2 ∨ k = 3) (hid : 0 ≤ id ∧ id ≤ 1073741824) (hlen : l.length ≠ 40) {j : Int} (hj : j ≠ id) : hasD (doM l k id s).1 j = hasD l j := by
  have h := (do_chg hr hk hid hlen (s := s)).2
  rw [Bool.eq_iff_iff, has_iff, has_iff]
  constructor
  · rintro ⟨d, hd, rfl⟩
    rw [h] at hd
    split at hd
    · rcases hd with hd | ⟨_, hd⟩
      · exact ⟨d, hd.2, rfl⟩
      · subst hd; exact absurd rfl hj
    · exact ⟨d, hd, rfl⟩
  · rintro ⟨d, hd, rfl⟩
    refine ⟨d, ?_, rfl⟩
    rw [h]
    split
    · exact .inl ⟨hj, hd⟩
    · exact hd
/-- Changes of unlike documents in either order. -/
theorem do_orders {l : List DocW} (hr : rightD l = true) (hlen : l.length ≤ 20) {k id : Int} {s : ByteArray} {k' id' : Int} {s' : ByteArray} (hk : k = 1 ∨ k = 2 ∨ k = 3) (hk' : k' = 1 ∨ k' = 2 ∨ k' = 3)
    (hid : 0 ≤ id ∧ id ≤ 1073741824) (hid' : 0 ≤ id' ∧ id' ≤ 1073741824) (hne : id ≠ id') :
    (doM (doM l k id s).1 k' id' s').1 = (doM (doM l k' id' s').1 k id s).1 ∧ (doM l k id s).2.2 = (doM (doM l k' id' s').1 k id s).2.2 ∧ (doM (doM l k id s).1 k' id' s').2.2 = (doM l k' id' s').2.2 := by
  have r1 := do_right hr k id s
  have r2 := do_right hr k' id' s'
  have n1 := do_len (l := l) (k := k) (id := id) (s := s)
  have n2 := do_len (l := l) (k := k') (id := id') (s := s')
  obtain ⟨a1, a2⟩ := do_chg hr hk hid (s := s) (by omega)
  obtain ⟨b1, b2⟩ := do_chg hr hk' hid' (s := s') (by omega)
  obtain ⟨c1, c2⟩ := do_chg r1 hk' hid' (s := s') (by omega)
  obtain ⟨d1, d2⟩ := do_chg r2 hk hid (s := s) (by omega)
  have h1 := has_chg hr hk hid (s := s) (by omega) (j := id') (fun e => hne e.symm)
  have h2 := has_chg hr hk' hid' (s := s') (by omega) (j := id) hne
  rw [h1] at c1 c2
  rw [h2] at d1 d2
  refine ⟨?_, by rw [a1, d1], by rw [c1, b1]⟩
  refine sort_ext (right_sort (do_right r1 k' id' s')) (right_sort (do_right r2 k id s)) fun d => ?_
  rw [c2, d2, a2, b2]
  generalize errM (hasD l id) k s = e1
  generalize errM (hasD l id') k' s' = e2
  by_cases x1 : e1 = 0 <;> by_cases x2 : e2 = 0 <;> simp only [x1, x2, if_true, if_false]
  constructor
  · rintro (⟨h3, h4 | h4⟩ | ⟨h3, h4⟩)
    · exact .inl ⟨h4.1, .inl ⟨h3, h4.2⟩⟩
    · exact .inr h4
    · subst h4; exact .inl ⟨fun e => hne e.symm, .inr ⟨h3, rfl⟩⟩
  · rintro (⟨h3, h4 | h4⟩ | ⟨h3, h4⟩)
    · exact .inl ⟨h4.1, .inl ⟨h3, h4.2⟩⟩
    · exact .inr h4
    · subst h4; exact .inl ⟨hne, .inr ⟨h3, rfl⟩⟩
/-- A document more, or less; the others are as they were. -/
theorem do_count {l : List DocW} {k id : Int} {s : ByteArray} (h : (doM l k id s).2.2 = 0) :
    ((doM l k id s).1.length : Int) = l.length + (if k = 1 then 1 else if k = 2 then -1 else 0) ∧ ∀ d ∈ l, d.id ≠ id → d ∈ (doM l k id s).1 := by
  have hg := do_goes h
  have hs := right_sort (goes_facts hg).1
  revert h
  unfold doM
  rw [if_pos hg]
  by_cases k6 : k = 6
  · subst k6; simp; intro d hd _; exact hd
  by_cases k2 : k = 2
  · subst k2
    cases c : hasD l id with
    | true =>
      have := del_length hs c
      simp
      exact ⟨by omega, fun d hd hn => mem_del.2 ⟨hn, hd⟩⟩
    | false => simp
  by_cases h0 : (setV s).2 = 0
  · by_cases k1 : k = 1
    · subst k1
      cases c : hasD l id with
      | true => simp [h0]
      | false =>
        by_cases c2 : l.length = 40
        · simp [h0, c2]
        · simp [h0, c2]
          exact ⟨by rw [ins_length]; omega, fun d hd hn => mem_ins.2 (.inl hd)⟩
    by_cases k3 : k = 3
    · subst k3
      cases c : hasD l id with
      | true =>
        simp [h0]
        exact ⟨by rw [rep_length], fun d hd hn => (mem_rep c).2 (.inl ⟨hn, hd⟩)⟩
      | false => simp [h0]
    by_cases k4 : k = 4
    · subst k4
      by_cases c : (setV s).1 = []
      · simp [h0, c]
      · simp [h0, c]; intro d hd _; exact hd
    · by_cases c : (setV s).1.length = 1
      · simp [k6, k2, h0, k1, k3, k4, c]; intro d hd _; exact hd
      · simp [k6, k2, h0, k1, k3, k4, c]
  · simp [k6, k2, h0]
/-- What is searched for. -/
theorem words_one {w : ByteArray} (h : GoodWord w) : wordsOf w = [w] := by
  rw [wordsOf_eq, List.foldl_append, foldl_word _ _ _ h.2.2]
  simp only [List.foldl_cons, List.foldl_nil, List.nil_append]
  rw [wstep_eq, if_pos (by decide), flush_word h]
  simp
theorem mem_setOf (s : ByteArray) (w : ByteArray) : w ∈ setOf s ↔ w ∈ wordsOf s := onceOf_mem _ _
theorem setV_small {s : ByteArray} (h1 : s.size ≤ 2000) (h2 : (setOf s).length ≤ 12) : setV s = (setOf s, 0) := by
  unfold setV
  rw [if_neg (by omega), if_neg (by omega)]
theorem set_one {w : ByteArray} (h : GoodWord w) : setV w = ([w], 0) := by
  have e : setOf w = [w] := (onceOf_unique (r := [w]) (by simp) (fun v => by rw [words_one h])).symm
  have := h.2.1
  rw [setV_small (by omega) (by rw [e]; simp), e]
theorem good_at (x : Int) : GoodWord (wordAt x) := nine_good _ (wordAt_mem x)
theorem set_len {s : ByteArray} {n : Nat} (h : (wordsOf s).length ≤ n) : (setOf s).length ≤ n :=
  Nat.le_trans (onceOf_length_le (m := wordsOf s) (fun w hw => hw)) h
theorem do_search {l : List DocW} (hr : rightD l = true) {id : Int} {s : ByteArray} (h0 : (setV s).2 = 0) (hne : (setV s).1 ≠ []) : doM l 4 id s = (l, allM l (setV s).1, 0) := by
  have hg : goesM l 4 id = true := by
    unfold goesM
    simp only [Bool.and_eq_true, Bool.or_eq_true, decide_eq_true_eq]
    exact ⟨⟨⟨hr, by omega⟩, by omega⟩, .inl (by omega)⟩
  unfold doM
  rw [if_pos hg]
  simp [h0, hne]
theorem do_compact {l : List DocW} (hr : rightD l = true) {id : Int} {s : ByteArray} (h0 : (setV s).2 = 0) (hne : (setV s).1.length = 1) : doM l 5 id s = (l, [], 0) := by
  have hg : goesM l 5 id = true := by
    unfold goesM
    simp only [Bool.and_eq_true, Bool.or_eq_true, decide_eq_true_eq]
    exact ⟨⟨⟨hr, by omega⟩, by omega⟩, .inl (by omega)⟩
  unfold doM
  rw [if_pos hg]
  simp [h0, hne]
theorem do_save {l : List DocW} (hr : rightD l = true) {id : Int} {s : ByteArray} : doM l 6 id s = (l, [], 0) := by
  have hg : goesM l 6 id = true := by
    unfold goesM
    simp only [Bool.and_eq_true, Bool.or_eq_true, decide_eq_true_eq]
    exact ⟨⟨⟨hr, by omega⟩, by omega⟩, .inl (by omega)⟩
  unfold doM
  rw [if_pos hg]
  simp
theorem mem_all {l : List DocW} (hs : sortD l) {ws : List ByteArray} {n : Int} : n ∈ allM l ws ↔ ∃ d ∈ l, d.id = n ∧ ∀ w ∈ ws, w ∈ d.ws := by
  unfold allM hasAll inW
  rw [List.mem_map]
  constructor
  · rintro ⟨d, hd, e⟩
    obtain ⟨h1, h2⟩ := List.mem_filter.1 hd
    exact ⟨d, h1, e, by simpa using h2⟩
  · rintro ⟨d, h1, e, h2⟩
    exact ⟨d, List.mem_filter.2 ⟨h1, by simpa using h2⟩, e⟩
theorem all_rising {l : List DocW} (hs : sortD l) (ws : List ByteArray) : (allM l ws).Pairwise (· < ·) := by
  unfold allM
  rw [List.pairwise_map]
  exact hs.sublist List.filter_sublist
theorem all_len {l : List DocW} {ws : List ByteArray} : (allM l ws).length ≤ l.length := by
  unfold allM
  rw [List.length_map]
  exact List.length_filter_le _ _
/-- What is found for both is in both lists. -/
theorem all_both {l : List DocW} (hs : sortD l) {u v w : List ByteArray} (h : ∀ x, x ∈ w ↔ x ∈ u ∨ x ∈ v) : (allM l u).filter (fun n => decide (n ∈ allM l v)) = allM l w := by
  have key : ∀ d ∈ l, (hasAll w d = true ↔ hasAll u d = true ∧ d.id ∈ allM l v) := by
    intro d hd
    rw [mem_all hs]
    unfold hasAll inW
    simp only [List.all_eq_true, decide_eq_true_eq]
    constructor
    · exact fun hw => ⟨fun x hx => hw x ((h x).2 (.inl hx)), d, hd, rfl, fun x hx => hw x ((h x).2 (.inr hx))⟩
    · rintro ⟨h1, e, he, e1, h2⟩ x hx
      rcases (h x).1 hx with hx | hx
      · exact h1 x hx
      · obtain rfl := sort_inj hs he hd e1
        exact h2 x hx
  conv => lhs; rw [allM]
  rw [allM, List.filter_map, List.filter_filter]
  congr 1
  apply List.filter_congr
  intro d hd
  have := key d hd
  rw [Bool.eq_iff_iff, this]
  simp only [Function.comp_apply, Bool.and_eq_true, decide_eq_true_eq]
  exact and_comm
end Go.Proofs.Ytipolblhiljoiaa.Sy
