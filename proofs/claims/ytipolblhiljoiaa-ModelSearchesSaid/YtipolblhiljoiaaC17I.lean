/- Layer 17: the law ModelSearches. -/
import Derived.Test.YtipolblhiljoiaaC17F
import Derived.Test.YtipolblhiljoiaaC17D
namespace Go.Proofs.Ytipolblhiljoiaa.Sy
open Go Go.RowKit
set_option linter.unusedVariables false
set_option linter.unusedSimpArgs false
set_option maxRecDepth 10000
set_option maxHeartbeats 4000000
def blankW : ByteArray := ⟨#[32]⟩
def bothI (p q : List Int) : List Int := p.flatMap fun a => q.filter fun b => decide (a = b)
theorem filter_eq_one {q : List Int} (hq : q.Pairwise (· < ·)) (a : Int) : (q.filter fun b => decide (a = b)) = if a ∈ q then [a] else [] := by
  induction q with
  | nil => simp
  | cons x q ih =>
    obtain ⟨h1, h2⟩ := List.pairwise_cons.1 hq
    rw [List.filter_cons, ih h2]
    by_cases e : a = x
    · subst e
      have : a ∉ q := fun h => by have := h1 a h; omega
      simp [this]
    · simp [e]
theorem both_filter {p q : List Int} (hq : q.Pairwise (· < ·)) : bothI p q = p.filter fun a => decide (a ∈ q) := by
  unfold bothI
  induction p with
  | nil => rfl
  | cons a p ih =>
    rw [List.flatMap_cons, ih, List.filter_cons, filter_eq_one hq]
    by_cases e : a ∈ q <;> simp [e]
theorem both_len (p q : List Int) : (bothI p q).length ≤ p.length * q.length := by
  unfold bothI
  induction p with
  | nil => simp
  | cons a p ih =>
    rw [List.flatMap_cons, List.length_append, List.length_cons, Nat.succ_mul]
    have := List.length_filter_le (fun b => decide (a = b)) q
    omega
def two_words (b c : Int) : ByteArray := wordAt b ++ blankW ++ wordAt c
theorem two_of (b c : Int) : wordsOf (two_words b c) = [wordAt b, wordAt c] := by
  unfold two_words blankW
  rw [words_join, words_one (good_at b), words_one (good_at c)]; rfl
theorem three_of (a b c : Int) : wordsOf (wordAt a ++ blankW ++ two_words b c) = [wordAt a, wordAt b, wordAt c] := by
  unfold blankW
  rw [words_join, words_one (good_at a), two_of]; rfl
theorem word_sz (x : Int) : (wordAt x).size ≤ 20 := (good_at x).2.1
theorem two_sz (b c : Int) : (two_words b c).size ≤ 41 := by
  have h1 := word_sz b
  have h2 := word_sz c
  unfold two_words blankW
  rw [ByteArray.size_append, ByteArray.size_append]
  show _ + 1 + _ ≤ 41
  omega
theorem three_sz (a b c : Int) : (wordAt a ++ blankW ++ two_words b c).size ≤ 62 := by
  have h1 := word_sz a
  have h2 := two_sz b c
  unfold blankW
  rw [ByteArray.size_append, ByteArray.size_append]
  show _ + 1 + _ ≤ 62
  omega
theorem set_two (b c : Int) : setV (two_words b c) = (setOf (two_words b c), 0) ∧ setOf (two_words b c) ≠ [] := by
  have := two_sz b c
  refine ⟨setV_small (by omega) (Nat.le_trans (set_len (n := 2) (by rw [two_of]; simp)) (by omega)), fun h => ?_⟩
  have hm := (mem_setOf (two_words b c) (wordAt b)).2 (by rw [two_of]; simp)
  rw [h] at hm; cases hm
theorem set_three (a b c : Int) : setV (wordAt a ++ blankW ++ two_words b c) = (setOf (wordAt a ++ blankW ++ two_words b c), 0) ∧ setOf (wordAt a ++ blankW ++ two_words b c) ≠ [] := by
  have := three_sz a b c
  refine ⟨setV_small (by omega) (Nat.le_trans (set_len (n := 3) (by rw [three_of]; simp)) (by omega)), fun h => ?_⟩
  have hm := (mem_setOf (wordAt a ++ blankW ++ two_words b c) (wordAt a)).2 (by rw [three_of]; simp)
  rw [h] at hm; cases hm
theorem both_three {l : List DocW} (hs : sortD l) (a b c : Int) : bothI (allM l [wordAt a]) (allM l (setOf (two_words b c))) = allM l (setOf (wordAt a ++ blankW ++ two_words b c)) := by
  rw [both_filter (all_rising hs _)]
  refine all_both hs fun x => ?_
  rw [mem_setOf, mem_setOf, three_of, two_of]
  simp
def same_inv (L : List DocW) (p q r : List Int) (m : Nat) (st : St) : Prop := ∃ i : Nat, m = 5 - i ∧ i ≤ 5 ∧
  st = ⟨165, [(122, .val (.int .i64 i)), (121, .val (.int .i64 5)), (120, .sl 64 1 0 5), (20, .rd 1 (intsR r)), (17, .rd 1 (intsR q)), (14, .rd 1 (intsR p)), (10, .rd 2 (rowsD L)), (9, .val (.bool true))],
    [(64, ⟨25, 1, [[.rd 2 (rowsD L)], [.rd 2 (rowsD L)], [.rd 2 (rowsD L)], [.rd 2 (rowsD L)], [.rd 2 (rowsD L)]], .cells⟩)], 72⟩
def outer_inv (p q r : List Int) (m : Nat) (st : St) : Prop := ∃ j : Nat, m = p.length - j ∧ j ≤ p.length ∧
  st = ⟨165, [(31, .val (.int .i64 j)), (30, .sl 64 1 0 (bothI (p.take j) q).length), (20, .rd 1 (intsR r)), (17, .rd 1 (intsR q)), (14, .rd 1 (intsR p)), (9, .val (.bool true))],
    [(64, ⟨3, 1, intsR (bothI (p.take j) q), .cells⟩)], 72⟩
def innerI (p q : List Int) (j : Nat) (a : Int) (k : Nat) : List Int := bothI (p.take j) q ++ (q.take k).filter fun b => decide (a = b)
def inner_inv (p q r : List Int) (j : Nat) (a : Int) (m : Nat) (st : St) : Prop := ∃ k : Nat, m = q.length - k ∧ k ≤ q.length ∧
  st = ⟨165, [(32, .val (.int .i64 k)), (31, .val (.int .i64 j)), (30, .sl 64 1 0 (innerI p q j a k).length), (20, .rd 1 (intsR r)), (17, .rd 1 (intsR q)), (14, .rd 1 (intsR p)), (9, .val (.bool true))],
    [(64, ⟨3, 1, intsR (innerI p q j a k), .cells⟩)], 72⟩
theorem inner_zero (p q : List Int) (j : Nat) (a : Int) : innerI p q j a 0 = bothI (p.take j) q := by simp [innerI]
theorem inner_succ {p q : List Int} {j : Nat} {a : Int} {k : Nat} (hk : k < q.length) : innerI p q j a (k + 1) = if a = q[k] then innerI p q j a k ++ [q[k]] else innerI p q j a k := by
  unfold innerI
  rw [wtake_one hk, List.filter_append]
  by_cases e : a = q[k] <;> simp [e]
theorem inner_end {p q : List Int} {j : Nat} (hj : j < p.length) : innerI p q j p[j] q.length = bothI (p.take (j + 1)) q := by
  unfold innerI bothI
  rw [wtake_one hj, List.flatMap_append, List.take_length]
  simp
theorem inner_len (p q : List Int) (j : Nat) (a : Int) (k : Nat) : (innerI p q j a k).length ≤ p.length * q.length + q.length := by
  unfold innerI
  rw [List.length_append]
  have h1 := both_len (p.take j) q
  have h2 := List.length_filter_le (fun b => decide (a = b)) (q.take k)
  have h3 := List.length_take_le k q
  have h4 : (p.take j).length * q.length ≤ p.length * q.length := Nat.mul_le_mul_right _ (List.length_take_le' j p)
  rw [List.length_take] at h2
  omega
theorem searches_call {rs : List RawW} {one two three : Int} (hl : rs.length ≤ maxLen) (h : ∀ r ∈ rs, RawIn r) (h1 : isI64 one) (h2 : isI64 two) (h3 : isI64 three) : CallOk Try.prog 5 [.rd 3 (rowsN rawR rs), .val (.int .i64 one), .val (.int .i64 two), .val (.int .i64 three)] [] (.val (.bool true)) [] := by
  refine .of_exec Try.func5 rfl (enters_5) rfl rfl (Nat.le_of_ble_eq_true rfl) (fun n _ => rfl) ?_
  have hD := Docs_call hl h
  have hR := docs_right rs
  have hlen := docs_len rs
  generalize docsV rs = L at *
  have W1 := Word_call h1
  have W2 := Word_call h2
  have W3 := Word_call h3
  have s1 := set_one (good_at one)
  obtain ⟨s2, s2n⟩ := set_two two three
  obtain ⟨s3, s3n⟩ := set_three one two three
  have e1 := do_search hR (id := 0) (s := wordAt one) (by rw [s1]) (by rw [s1]; simp)
  have e2 := do_search hR (id := 0) (s := two_words two three) (by rw [s2]) (by rw [s2]; exact s2n)
  have e3 := do_search hR (id := 0) (s := wordAt one ++ blankW ++ two_words two three) (by rw [s3]) (by rw [s3]; exact s3n)
  have e4 := do_compact hR (id := 0) (s := wordAt one) (by rw [s1]) (by rw [s1]; rfl)
  have e5 := do_save hR (id := one) (s := ⟨#[]⟩)
  rw [s1] at e1
  rw [s2] at e2
  rw [s3] at e3
  have d1 := mDo_call (right_in hR) (k := 4) (id := 0) (s := wordAt one)
  have d2 := mDo_call (right_in hR) (k := 4) (id := 0) (s := two_words two three)
  have d3 := mDo_call (right_in hR) (k := 4) (id := 0) (s := wordAt one ++ blankW ++ two_words two three)
  have d4 := mDo_call (right_in hR) (k := 5) (id := 0) (s := wordAt one)
  have d5 := mDo_call (right_in hR) (k := 6) (id := one) (s := ⟨#[]⟩)
  rw [e1] at d1
  rw [e2] at d2
  rw [e3] at d3
  rw [e4] at d4
  rw [e5] at d5
  have hb := both_three (right_sort hR) one two three
  have lp := all_len (l := L) (ws := [wordAt one])
  have lq := all_len (l := L) (ws := setOf (two_words two three))
  have lr := all_len (l := L) (ws := setOf (wordAt one ++ blankW ++ two_words two three))
  have z1 := word_sz one
  have z2 := word_sz two
  have z3 := word_sz three
  simp only at d1 d2 d3
  generalize allM L (setOf (wordAt one ++ blankW ++ two_words two three)) = r at *
  generalize allM L (setOf (two_words two three)) = q at *
  generalize allM L [wordAt one] = p at *
  unfold two_words blankW at d2 d3
  generalize wordAt one = x at *
  generalize wordAt two = y at *
  generalize wordAt three = z at *
  have hS := rSame_call (right_in hR) (right_in hR)
  have eS : eqD L L = true := by simp [eqD]
  rw [eS] at hS
  have hI := rInts_call (l := r) (r := r) (by unfold maxLen; omega) (by unfold maxLen; omega)
  have eI : eqI r r = true := by simp [eqI]
  rw [eI] at hI
  have hsz1 : (⟨#[32]⟩ : ByteArray).size = 1 := rfl
  have m5 : 5 ≤ maxLen := by decide
  have y1 : y.size + 1 ≤ 9223372036854775807 := by omega
  have y2 : y.size + 1 + z.size ≤ 9223372036854775807 := by omega
  have y3 : x.size + 1 ≤ 9223372036854775807 := by omega
  have y4 : x.size + 1 + (y.size + 1 + z.size) ≤ 9223372036854775807 := by omega
  simp
  refine .plain awake17_call (by simp) (by simp) ?_
  simp
  refine .plain hD (by simp) (by simp) ?_
  simp
  refine .plain W1 (by simp) (by simp) ?_
  simp
  refine callK.plain W2 (by simp) (by simp) ?_
  simp [y1, y2, y3, y4, hsz1, ByteArray.size_append]
  refine callK.plain W3 (by simp) (by simp) ?_
  simp [y1, y2, y3, y4, hsz1, ByteArray.size_append]
  refine .plain d1 (by simp) (by simp) ?_
  simp
  refine .plain d2 (by simp) (by simp) ?_
  simp [y1, y2, y3, y4, hsz1, ByteArray.size_append]
  refine .plain d3 (by simp) (by simp) ?_
  simp
  refine .plain d4 (by simp) (by simp) ?_
  simp
  refine .plain d5 (by simp) (by simp) ?_
  simp [m5]
  refine WPg.loopW (same_inv L p q r) ⟨5, _, ?_, ⟨0, by simp, by simp, rfl⟩⟩ ?_
  · exact Wk.rn [(920, 64)] rfl (by simp) (by simp) (by simp)
  rintro m st ⟨i, g1, g2, rfl⟩
  by_cases hi : i < 5
  · have hc : i = 0 ∨ i = 1 ∨ i = 2 ∨ i = 3 ∨ i = 4 := by omega
    rcases hc with rfl | rfl | rfl | rfl | rfl
    · simp
      refine .plain hS (by simp) (by simp) ?_
      simp
      refine ⟨4, by omega, _, ?_, ⟨1, rfl, by omega, rfl⟩⟩
      have hwi : IntKind.i64.wrap 1 = 1 := by decide
      exact Wk.rn [(64, 64)] rfl (by simp) (by simp [hwi]) (by simp)
    · simp
      refine .plain hS (by simp) (by simp) ?_
      simp
      refine ⟨3, by omega, _, ?_, ⟨2, rfl, by omega, rfl⟩⟩
      have hwi : IntKind.i64.wrap 2 = 2 := by decide
      exact Wk.rn [(64, 64)] rfl (by simp) (by simp [hwi]) (by simp)
    · simp
      refine .plain hS (by simp) (by simp) ?_
      simp
      refine ⟨2, by omega, _, ?_, ⟨3, rfl, by omega, rfl⟩⟩
      have hwi : IntKind.i64.wrap 3 = 3 := by decide
      exact Wk.rn [(64, 64)] rfl (by simp) (by simp [hwi]) (by simp)
    · simp
      refine .plain hS (by simp) (by simp) ?_
      simp
      refine ⟨1, by omega, _, ?_, ⟨4, rfl, by omega, rfl⟩⟩
      have hwi : IntKind.i64.wrap 4 = 4 := by decide
      exact Wk.rn [(64, 64)] rfl (by simp) (by simp [hwi]) (by simp)
    · simp
      refine .plain hS (by simp) (by simp) ?_
      simp
      refine ⟨0, by omega, _, ?_, ⟨5, rfl, by omega, rfl⟩⟩
      have hwi : IntKind.i64.wrap 5 = 5 := by decide
      exact Wk.rn [(64, 64)] rfl (by simp) (by simp [hwi]) (by simp)
  obtain rfl : i = 5 := by omega
  simp
  refine WPg.loopW (outer_inv p q r) ⟨p.length, _, ?_, ⟨0, by simp, by simp, rfl⟩⟩ ?_
  · refine (Wk.nil [30] [] 3 1).trans ?_
    exact Wk.rn [(96, 64)] rfl (by simp) (by simp [bothI]) (by simp [bothI, rowsV])
  rintro m st ⟨j, g1, g2, rfl⟩
  by_cases hj : j < p.length
  · have hj' : (j : Int) < p.length := by omega
    have hpn : p ≠ [] := by rintro rfl; simp at hj
    have hwj : IntKind.i64.wrap ((j : Int) + 1) = ((j + 1 : Nat) : Int) := by rw [w64 (by omega) (by omega)]; omega
    obtain ⟨a, ha⟩ : ∃ a, p[j] = a := ⟨_, rfl⟩
    have hend := inner_end (q := q) hj
    rw [ha] at hend
    simp [hj, hj', hpn, ha]
    refine WPg.loopW (inner_inv p q r j a) ⟨q.length, _, ?_, ⟨0, by simp, by simp, rfl⟩⟩ ?_
    · exact Wk.rn [(64, 64)] rfl (by simp) (by simp [inner_zero]) (by simp [inner_zero])
    rintro m2 st2 ⟨k, g3, g4, rfl⟩
    by_cases hk : k < q.length
    · have hk' : (k : Int) < q.length := by omega
      have hqn : q ≠ [] := by rintro rfl; simp at hk
      have hwk : IntKind.i64.wrap ((k : Int) + 1) = ((k + 1 : Nat) : Int) := by rw [w64 (by omega) (by omega)]; omega
      obtain ⟨b, hb'⟩ : ∃ b, q[k] = b := ⟨_, rfl⟩
      have hsucc := inner_succ (p := p) (j := j) (a := a) hk
      rw [hb'] at hsucc
      have hil := inner_len p q j a k
      have hmul : p.length * q.length ≤ 20 * 20 := Nat.mul_le_mul (by omega) (by omega)
      generalize innerI p q j a k = X at *
      have x1 : X.length ≤ 140737488355327 := by omega
      have x2 : (X.length + 1) * 8 ≤ 140737488355328 := by omega
      have m1 : 1 ≤ maxLen := by decide
      by_cases hab : a = b
      · rw [if_pos hab] at hsucc
        subst hab
        simp [hj, hj', hpn, ha, hk, hk', hqn, hb', m1, x1, x2]
        refine ⟨rfl, q.length - (k + 1), by omega, _, ?_, ⟨k + 1, rfl, by omega, rfl⟩⟩
        rw [hwk, hsucc]
        exact Wk.rn [(224, 64)] rfl (by simp) (by simp) (by simp)
      · rw [if_neg hab] at hsucc
        simp [hj, hj', hpn, ha, hk, hk', hqn, hb', hab]
        refine ⟨rfl, q.length - (k + 1), by omega, _, ?_, ⟨k + 1, rfl, by omega, rfl⟩⟩
        rw [hwk, hsucc]
        exact Wk.rn [(64, 64)] rfl (by simp) (by simp) (by simp)
    · obtain rfl : k = q.length := by omega
      simp
      refine ⟨p.length - (j + 1), by omega, _, ?_, ⟨j + 1, rfl, by omega, rfl⟩⟩
      rw [hwj, hend]
      exact Wk.rn [(64, 64)] rfl (by simp) (by simp) (by simp)
  · obtain rfl : j = p.length := by omega
    simp
    rw [hb]
    refine callK.lent [64] hI (by simp) (by simp) (by simp) (by simp) (by simp) (by simp) ?_
    simp
    exact .plain (by simp) (by simp)
end Go.Proofs.Ytipolblhiljoiaa.Sy
