/- The document's own answers (signs, words, sets), in plain words: they are the program's. -/
import Derived.Test.YtpmjnggkhjjiaaaWordsText
import Derived.Test.YtpmjnggkhjjiaaaAx9
import Derived.Test.YtpmjnggkhjjiaaaAx8
namespace Go.Proofs.Ytpmjnggkhjjiaaa.A
open Go.RowKit Go.Proofs.YtpmjnggkhjjiaaaW.PrintWords Go.Proofs.YtpmjnggkhjjiaaaW.PrintLast Go.Proofs.YtpmjnggkhjjiaaaW.PrintMore
set_option linter.unusedVariables false
set_option linter.unusedSimpArgs false

theorem refSign_eq (k : Nat) (b : Int) (hk : 3 ≤ k) (h0 : 0 ≤ b) (h1 : b ≤ 255) : columbariumref16_Sign.f k b = some (signOf b) := by
  obtain ⟨k, rfl⟩ : ∃ m, k = m + 1 + 1 + 1 := ⟨k - 3, by omega⟩
  have e0 : ∀ x3, columbariumref16_Sign.j0 (k + 1 + 1 + 1) b x3 = if b ≥ 48 then (columbariumref16_Sign.j1 (k + 1 + 1) b x3 (decide (b ≤ 57))) else (columbariumref16_Sign.j1 (k + 1 + 1) b x3 false) := fun x3 => by rw [columbariumref16_Sign.j0]
  have e1 : ∀ x3 x4, columbariumref16_Sign.j1 (k + 1 + 1) b x3 x4 = if x3 = true then (columbariumref16_Sign.j2 (k + 1) b true) else (columbariumref16_Sign.j2 (k + 1) b x4) := fun x3 x4 => by rw [columbariumref16_Sign.j1]
  have e2 : ∀ x20, columbariumref16_Sign.j2 (k + 1) b x20 = if x20 = true then (some b) else (if b ≥ 65 then (if b ≤ 90 then (some ((b + 32) % 256)) else (some 0)) else (some 0)) := fun x20 => by rw [columbariumref16_Sign.j2]
  unfold columbariumref16_Sign.f signOf
  simp only [e0, e1, e2, decide_eq_true_eq, Bool.false_eq_true, if_false, if_true]
  repeat' split
  all_goals first | (exfalso; omega) | (simp only [Option.some.injEq]; omega) | rfl

theorem strOfNums_nil : strOfNums [] = (⟨#[]⟩ : ByteArray) := rfl
theorem strOfNums_append (a b : List Int) : strOfNums a ++ strOfNums b = strOfNums (a ++ b) := by
  apply ba_ext
  simp [strOfNums, ByteArray.data_append]
theorem strOfNums_cut (p : List Int) (n : Nat) : (strOfNums p).extract 0 n = strOfNums (p.take n) := by
  apply ba_ext
  rw [show ((strOfNums p).extract 0 n).data.toList = ((strOfNums p).data.toList.take n).drop 0 from by simp [ByteArray.data_extract, List.extract]]
  simp [strOfNums]
theorem take_mn (p : List Int) : p.take (mn (p.length : Int) 20).toNat = p.take 20 := by
  unfold mn
  by_cases h : (20 : Int) < (p.length : Int)
  · rw [if_pos h]; rfl
  · rw [if_neg h, List.take_of_length_le (by omega), List.take_of_length_le (by omega)]

theorem refSplit_loop (s : ByteArray) (hs : s.size ≤ 4096) : ∀ (d : Nat) (i : Int) (p : List Int) (acc : List ByteArray) (k : Nat), 0 ≤ i → (s.size : Int) + 1 - i = d → (p.length : Int) ≤ i → (acc.length : Int) ≤ i → 2 * d + 10 ≤ k →
    columbariumref16_Split.l0 k s acc (strOfNums p) i = some ((((bytesOf s ++ [0]).drop i.toNat).foldl wstep (p, acc)).2, 0)
  | 0, i, p, acc, k, h0, hd, hp, ha, hk => by
    obtain ⟨k, rfl⟩ : ∃ m, k = m + 1 := ⟨k - 1, by omega⟩
    have hn : (bytesOf s ++ [0]).drop i.toNat = [] := List.drop_eq_nil_of_le (by rw [List.length_append, bytesOf_length, List.length_singleton]; omega)
    rw [columbariumref16_Split.l0, if_neg (by omega), hn, List.foldl_nil]
  | d + 1, i, p, acc, k, h0, hd, hp, ha, hk => by
    obtain ⟨k, rfl⟩ : ∃ m, k = m + 1 + 1 := ⟨k - 2, by omega⟩
    obtain ⟨b, hb⟩ : ∃ b, (bytesOf s ++ [0]).drop i.toNat = b :: (bytesOf s ++ [0]).drop (i + 1).toNat ∧ (if i < (s.size : Int) then b = bt s i else b = 0) := by
      have hl : i.toNat < (bytesOf s ++ [0]).length := by rw [List.length_append, bytesOf_length, List.length_singleton]; omega
      refine ⟨_, by rw [show (i + 1).toNat = i.toNat + 1 by omega]; exact List.drop_eq_getElem_cons hl, ?_⟩
      split
      · rename_i h
        have hl2 : i.toNat < (bytesOf s).length := by rw [bytesOf_length]; omega
        rw [List.getElem_append_left hl2, ← rd_bytesOf]
        unfold rd; rw [List.getD_eq_getElem?_getD, List.getElem?_eq_getElem hl2]; rfl
      · rename_i h
        have hl2 : (bytesOf s).length ≤ i.toNat := by rw [bytesOf_length]; omega
        have e := List.getElem_append_right (bs := [0]) (h₂ := hl) hl2
        rw [e]
        have : i.toNat - (bytesOf s).length = 0 := by rw [bytesOf_length]; omega
        simp [this]
    have hbr : 0 ≤ b ∧ b ≤ 255 := by
      have h := hb.2
      split at h
      · rw [h]; exact bt_range s i
      · omega
    have key : columbariumref16_Split.j1 (k + 1) s acc (strOfNums p) i (signOf b) = some ((((bytesOf s ++ [0]).drop i.toNat).foldl wstep (p, acc)).2, 0) := by
      have hsr := signOf_range hbr.1 hbr.2
      rw [columbariumref16_Split.j1, hb.1, List.foldl_cons, wstep_eq, strOfNums_size]
      by_cases c : signOf b = 0
      · rw [if_neg (by omega), if_pos c]
        by_cases c2 : (p.length : Int) ≥ 2
        · have hm : 0 ≤ mn (p.length : Int) 20 ∧ mn (p.length : Int) 20 ≤ p.length := by unfold mn; split <;> omega
          rw [if_pos c2, if_pos hm.1, if_pos hm.2, if_pos (by omega), strOfNums_cut, take_mn, wrap64_id (by omega) (by omega), ← strOfNums_nil, refSplit_loop s hs d (i + 1) [] _ k (by omega) (by omega) (by simp; omega) (by rw [List.length_append, List.length_singleton]; omega) (by omega)]
          have : flush p = [strOfNums (p.take 20)] := by unfold flush; rw [if_pos (by omega)]
          simp only [this]
        · have : flush p = [] := by unfold flush; rw [if_neg (by omega)]
          rw [if_neg c2, wrap64_id (by omega) (by omega), ← strOfNums_nil, refSplit_loop s hs d (i + 1) [] _ k (by omega) (by omega) (by simp; omega) (by omega) (by omega)]
          simp only [this, List.append_nil]
      · rw [if_pos (by omega), if_neg c]
        simp only [Option.bind_some]
        rw [if_pos (by rw [strOfNums_size]; simp; omega), strOfNums_append, wrap64_id (by omega) (by omega)]
        exact refSplit_loop s hs d (i + 1) (p ++ [signOf b]) acc k (by omega) (by omega) (by rw [List.length_append, List.length_singleton]; omega) (by omega) (by omega)
    rw [columbariumref16_Split.l0, if_pos (by omega)]
    have h := hb.2
    by_cases hlt : i < (s.size : Int)
    · rw [if_pos hlt] at h
      rw [if_pos hlt, if_pos h0, ← h, refSign_eq _ b (by omega) hbr.1 hbr.2]
      simp only [Option.bind_some]
      exact key
    · rw [if_neg hlt] at h
      rw [if_neg hlt]
      subst h
      have e0 : signOf 0 = 0 := by decide
      rw [e0] at key
      exact key
theorem refSplit_eq (s : ByteArray) (k : Nat) (hk : 4100 ≤ k) : columbariumref16_Split.f k s = words_Split.f s := by
  unfold columbariumref16_Split.f words_Split.f
  by_cases h : (s.size : Int) > 2000
  · rw [if_pos h, if_pos h]
  · rw [if_neg h, if_neg h, ← strOfNums_nil, refSplit_loop s (by omega) (s.size + 1) 0 [] [] k (by omega) (by omega) (by simp) (by simp) (by omega), wordsOf_eq]
    rfl

theorem refMay_loop (w : ByteArray) (hl : w.size ≤ 4096) : ∀ (d : Nat) (i : Int) (k : Nat), 0 ≤ i → (w.size : Int) - i = d → d + 5 ≤ k →
    columbariumref16_May.l0 k w i = some (decide (∀ c ∈ (bytesOf w).drop i.toNat, c ≠ 0 ∧ signOf c = c) && (decide ((w.size : Int) ≥ 2) && decide ((w.size : Int) ≤ 20)))
  | 0, i, k, h0, hd, hk => by
    obtain ⟨k, rfl⟩ : ∃ m, k = m + 1 := ⟨k - 1, by omega⟩
    unfold columbariumref16_May.l0
    rw [if_neg (by omega), List.drop_eq_nil_of_le (by rw [bytesOf_length]; omega)]
    by_cases h : (w.size : Int) ≥ 2
    · rw [if_pos h]; simp [h]
    · rw [if_neg h]; simp [h]
  | d + 1, i, k, h0, hd, hk => by
    obtain ⟨k, rfl⟩ : ∃ m, k = m + 1 := ⟨k - 1, by omega⟩
    have hi : i.toNat < (bytesOf w).length := by rw [bytesOf_length]; omega
    have he : bt w i = (bytesOf w)[i.toNat] := by
      rw [← rd_bytesOf]
      unfold rd; rw [List.getD_eq_getElem?_getD, List.getElem?_eq_getElem hi]; rfl
    have hd1 : (bytesOf w).drop i.toNat = bt w i :: (bytesOf w).drop (i + 1).toNat := by
      rw [show (i + 1).toNat = i.toNat + 1 by omega, he]; exact List.drop_eq_getElem_cons hi
    have hb := bt_range w i
    unfold columbariumref16_May.l0
    rw [if_pos (by omega), if_pos h0, refSign_eq k _ (by omega) hb.1 hb.2, wrap64_id (by omega) (by omega), refMay_loop w hl d (i + 1) k (by omega) (by omega) (by omega), hd1]
    simp only [Option.bind_some]
    by_cases c1 : signOf (bt w i) = 0
    · rw [if_pos c1]
      congr 1
      symm
      rw [Bool.and_eq_false_iff]
      left
      rw [decide_eq_false_iff_not]
      intro hh
      have := hh _ List.mem_cons_self
      omega
    · rw [if_neg c1]
      by_cases c2 : signOf (bt w i) = bt w i
      · rw [if_pos c2]
        have : bt w i ≠ 0 := by omega
        simp [c2, this]
      · rw [if_neg c2]; simp [c2]
theorem refMay_eq (w : ByteArray) (k : Nat) (hw : w.size ≤ 4096) (hk : 4110 ≤ k) : columbariumref16_May.f k w = some (mayOf w) := by
  unfold columbariumref16_May.f mayOf
  rw [refMay_loop w hw w.size 0 k (by omega) (by omega) (by omega)]
  rfl

theorem bytesLess_bl (a b : ByteArray) : Op.bytesLess a.toList b.toList = decide (bl a < bl b) := by rw [less_lt, bl_toList, bl_toList]
def Rising (l : List ByteArray) : Prop := (l.map bl).Pairwise (· < ·)
theorem rising_ins {l : List ByteArray} {s : ByteArray} (n : Nat) (hr : Rising l) (h1 : ∀ w ∈ l.take n, bl w < bl s) (h2 : ∀ w ∈ l.drop n, bl s < bl w) : Rising (l.take n ++ [s] ++ l.drop n) := by
  unfold Rising at *
  rw [← List.take_append_drop n l, List.map_append, List.pairwise_append] at hr
  rw [List.map_append, List.map_append, List.pairwise_append, List.pairwise_append]
  refine ⟨⟨hr.1, by simp, ?_⟩, hr.2.1, ?_⟩
  · intro a ha b hb
    obtain ⟨w, hw, rfl⟩ := List.mem_map.1 ha
    simp only [List.map_cons, List.map_nil, List.mem_singleton] at hb
    rw [hb]; exact h1 w hw
  · intro a ha b hb
    rcases List.mem_append.1 ha with h | h
    · exact hr.2.2 a h b hb
    · simp only [List.map_cons, List.map_nil, List.mem_singleton] at h
      obtain ⟨w, hw, rfl⟩ := List.mem_map.1 hb
      rw [h]; exact h2 w hw
theorem refSorted_loop (l : List ByteArray) (s : ByteArray) (hl : l.length ≤ 4096) (hr : Rising l) (hs : s ∉ l) : ∀ (n : Nat) (k : Nat), n ≤ l.length → (∀ w ∈ l.drop n, bl s < bl w) → n + 1 ≤ k →
    ∃ r, columbariumref16_Sorted.l0 k l s n = some r ∧ Rising r ∧ r.length = l.length + 1 ∧ ∀ w, w ∈ r ↔ w = s ∨ w ∈ l
  | 0, k, hn, h, hk => by
    obtain ⟨k, rfl⟩ : ∃ m, k = m + 1 := ⟨k - 1, by omega⟩
    unfold columbariumref16_Sorted.l0
    have e0 : ((0 : Nat) : Int).toNat = 0 := rfl
    rw [if_neg (by omega), if_pos (by omega), if_pos (by omega), e0, List.take_zero, List.drop_zero]
    simp only [List.nil_append, List.length_nil, Nat.reduceAdd, Option.bind_some, List.length_singleton]
    rw [if_pos (by omega), if_pos (by omega), if_pos (by omega)]
    have := rising_ins (s := s) 0 hr (by simp) h
    rw [List.take_zero, List.drop_zero] at this
    exact ⟨_, rfl, this, by simp, fun w => by simp⟩
  | n + 1, k, hn, h, hk => by
    obtain ⟨k, rfl⟩ : ∃ m, k = m + 1 := ⟨k - 1, by omega⟩
    have hlt : n < l.length := by omega
    have e1 : wrap64 (((n + 1 : Nat) : Int) - 1) = (n : Int) := by rw [wrap64_id (by omega) (by omega)]; omega
    have eg : rdOf ByteArray.empty l (n : Int) = l[n] := by
      unfold rdOf; rw [Int.toNat_natCast, List.getD_eq_getElem?_getD, List.getElem?_eq_getElem hlt]; rfl
    have hm : l[n] ∈ l := List.getElem_mem _
    unfold columbariumref16_Sorted.l0
    rw [if_pos (by omega), e1, if_pos (by omega), if_pos (by omega), eg, bytesLess_bl]
    by_cases c : bl s < bl l[n]
    · rw [if_pos (by simpa using c)]
      refine refSorted_loop l s hl hr hs n k (by omega) ?_ (by omega)
      intro w hw
      rw [List.drop_eq_getElem_cons hlt] at hw
      rcases List.mem_cons.1 hw with e | e
      · rw [e]; exact c
      · exact h w e
    · rw [if_neg (by simpa using c), if_pos (by omega), if_pos (by omega)]
      have e2 : ((n + 1 : Nat) : Int).toNat = n + 1 := rfl
      rw [e2]
      simp only [List.nil_append, List.length_nil, Nat.zero_add, Option.bind_some, List.length_singleton]
      have ht : (l.take (n + 1)).length = n + 1 := by rw [List.length_take]; omega
      have hd : (l.drop (n + 1)).length = l.length - (n + 1) := List.length_drop
      rw [if_pos (by omega), if_pos (by omega), if_pos (by rw [List.length_append, List.length_singleton]; omega)]
      have hle : bl l[n] ≤ bl s := List.not_lt.1 c
      have hne : bl l[n] ≠ bl s := fun e => hs (by rw [← bl_inj e]; exact hm)
      have hlt2 : bl l[n] < bl s := by
        refine Classical.byContradiction fun hh => hne (List.le_antisymm hle (List.not_lt.1 hh))
      refine ⟨_, rfl, rising_ins (n + 1) hr ?_ h, ?_, ?_⟩
      · intro w hw
        rw [List.take_succ_eq_append_getElem hlt] at hw
        rcases List.mem_append.1 hw with e | e
        · unfold Rising at hr
          obtain ⟨j, hj, rfl⟩ := List.getElem_of_mem e
          rw [List.length_take] at hj
          rw [List.getElem_take]
          have := List.pairwise_iff_getElem.1 hr j n (by rw [List.length_map]; omega) (by rw [List.length_map]; omega) (by omega)
          rw [List.getElem_map, List.getElem_map] at this
          exact List.lt_trans this hlt2
        · rw [List.mem_singleton.1 e]; exact hlt2
      · rw [List.length_append, List.length_append, ht, hd, List.length_singleton]; omega
      · intro w
        conv => rhs; rw [← List.take_append_drop (n + 1) l]
        simp only [List.mem_append, List.mem_singleton]
        constructor
        · rintro ((a | a) | a) <;> simp [a]
        · rintro (a | a | a) <;> simp [a]
theorem refSorted_ok (l : List ByteArray) (s : ByteArray) (k : Nat) (hl : l.length ≤ 4096) (hr : Rising l) (hs : s ∉ l) (hk : 4100 ≤ k) :
    ∃ r, columbariumref16_Sorted.f k l s = some r ∧ Rising r ∧ r.length = l.length + 1 ∧ ∀ w, w ∈ r ↔ w = s ∨ w ∈ l := by
  unfold columbariumref16_Sorted.f
  exact refSorted_loop l s hl hr hs l.length k (by omega) (by simp) (by omega)

theorem refSet_loop (ws : List ByteArray) (hw : ws.length ≤ 4000) : ∀ (d : Nat) (i : Int) (out : List ByteArray) (k : Nat), 0 ≤ i → (ws.length : Int) - i = d → (out.length : Int) ≤ i → Rising out → (∀ w, w ∈ out ↔ w ∈ ws.take i.toNat) → d + 4110 ≤ k →
    columbariumref16_Set.l0 k ws out i = some (if ((onceOf ws).length : Int) > 12 then ([], 2) else (onceOf ws, 0))
  | 0, i, out, k, h0, hd, ho, hr, hm, hk => by
    obtain ⟨k, rfl⟩ : ∃ m, k = m + 1 := ⟨k - 1, by omega⟩
    rw [List.take_of_length_le (by omega)] at hm
    have e : out = onceOf ws := onceOf_unique hr hm
    unfold columbariumref16_Set.l0
    rw [if_neg (by omega), e]
    split <;> rfl
  | d + 1, i, out, k, h0, hd, ho, hr, hm, hk => by
    obtain ⟨k, rfl⟩ : ∃ m, k = m + 1 := ⟨k - 1, by omega⟩
    have hi : i.toNat < ws.length := by omega
    have eg : rdOf ByteArray.empty ws i = ws[i.toNat] := by
      unfold rdOf; rw [List.getD_eq_getElem?_getD, List.getElem?_eq_getElem hi]; rfl
    have et : ws.take (i + 1).toNat = ws.take i.toNat ++ [ws[i.toNat]] := by
      rw [show (i + 1).toNat = i.toNat + 1 by omega]; exact List.take_succ_eq_append_getElem hi
    unfold columbariumref16_Set.l0
    rw [if_pos (by omega), if_pos h0, in_eq out _ k (by omega) (by omega), wrap64_id (by omega) (by omega), eg]
    simp only [Option.bind_some]
    by_cases c : ws[i.toNat] ∈ out
    · rw [if_pos (by simpa using c)]
      refine refSet_loop ws hw d (i + 1) out k (by omega) (by omega) (by omega) hr (fun w => ?_) (by omega)
      rw [et, List.mem_append, List.mem_singleton, hm]
      constructor
      · exact .inl
      · rintro (h | h)
        · exact h
        · rw [h]; exact (hm _).1 c
    · rw [if_neg (by simpa using c)]
      obtain ⟨r, hrr, hr1, hr2, hr3⟩ := refSorted_ok out ws[i.toNat] k (by omega) hr c (by omega)
      rw [hrr]
      simp only [Option.bind_some]
      refine refSet_loop ws hw d (i + 1) r k (by omega) (by omega) (by omega) hr1 (fun w => ?_) (by omega)
      rw [et, List.mem_append, List.mem_singleton, hr3, hm]
      constructor
      · rintro (h | h) <;> simp [h]
      · rintro (h | h) <;> simp [h]
theorem refSet_eq (s : ByteArray) (k : Nat) (hk : 8200 ≤ k) : columbariumref16_Set.f k s = words_Set.f s := by
  unfold columbariumref16_Set.f
  rw [refSplit_eq s k (by omega)]
  unfold words_Split.f words_Set.f
  by_cases h : (s.size : Int) > 2000
  · rw [if_pos h, if_pos h]; rfl
  · have hl := wordsOf_length s
    rw [if_neg h, if_neg h]
    simp only [Option.bind_some, if_true]
    rw [refSet_loop (wordsOf s) (by omega) (wordsOf s).length 0 [] k (by omega) (by omega) (by simp) List.Pairwise.nil (fun w => by simp) (by omega)]
    unfold setOf
    split <;> rfl
end Go.Proofs.Ytpmjnggkhjjiaaa.A
