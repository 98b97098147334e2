/- What the law's own helpers answer: pick, Text, great, Texts, awake. -/
import Derived.Test.YtpmjnggkhjjiaaaWordsPure
namespace Go.Proofs.Ytpmjnggkhjjiaaa.A
open Go.RowKit Go.Proofs.YtpmjnggkhjjiaaaW.PrintWords Go.Proofs.YtpmjnggkhjjiaaaW.PrintLast Go.Proofs.YtpmjnggkhjjiaaaW.PrintMore
set_option linter.unusedVariables false
set_option linter.unusedSimpArgs false

theorem pick_ok (a n : Int) (ha : -9223372036854775808 ≤ a ∧ a ≤ 9223372036854775807) (hn : 0 < n) : ∃ r, columbariumlaw16_pick.f a n = some r ∧ 0 ≤ r ∧ r < n := by
  unfold columbariumlaw16_pick.f
  by_cases h : a < 0
  · rw [if_pos h, if_neg (show ¬ n = 0 by omega), wrap64_id (n := a + 1) (by omega) (by omega), wrap64_id (n := -(a + 1)) (by omega) (by omega)]
    exact ⟨_, rfl, Int.tmod_nonneg _ (show 0 ≤ -(a + 1) by omega), Int.tmod_lt_of_pos _ hn⟩
  · rw [if_neg h, if_neg (show ¬ n = 0 by omega)]
    exact ⟨_, rfl, Int.tmod_nonneg _ (Int.not_lt.1 h), Int.tmod_lt_of_pos _ hn⟩
theorem mn_le (a : Nat) (b : Int) (h : 0 ≤ b) : 0 ≤ mn (a : Int) b ∧ mn (a : Int) b ≤ a ∧ mn (a : Int) b ≤ b := by unfold mn; split <;> omega
theorem cut_size (s : ByteArray) (b : Int) (h : 0 ≤ b) : (s.extract 0 (mn (s.size : Int) b).toNat).size = (mn (s.size : Int) b).toNat ∧ ((s.extract 0 (mn (s.size : Int) b).toNat).size : Int) ≤ b := by
  have := mn_le s.size b h
  rw [ByteArray.size_extract]; omega
theorem texts_loop (l : List ByteArray) (hl : l.length ≤ 4096) : ∀ (d : Nat) (i : Int) (k : Nat), 0 ≤ i → (l.length : Int) - i = d → d + 1 ≤ k → columbariumref10_Texts.l0 k l l i = some true
  | 0, i, k, h0, hd, hk => by
    obtain ⟨k, rfl⟩ : ∃ m, k = m + 1 := ⟨k - 1, by omega⟩
    unfold columbariumref10_Texts.l0
    rw [if_neg (by omega)]
  | d + 1, i, k, h0, hd, hk => by
    obtain ⟨k, rfl⟩ : ∃ m, k = m + 1 := ⟨k - 1, by omega⟩
    unfold columbariumref10_Texts.l0
    rw [if_pos (by omega), if_pos h0, if_pos (by omega), if_pos rfl, wrap64_id (by omega) (by omega)]
    exact texts_loop l hl d _ _ (by omega) (by omega) (by omega)
theorem texts_same (l : List ByteArray) (k : Nat) (hl : l.length ≤ 4096) (hk : 4097 ≤ k) : columbariumref10_Texts.f k l l = some true := by
  unfold columbariumref10_Texts.f
  rw [if_pos rfl]
  exact texts_loop l hl l.length 0 k (by omega) (by omega) (by omega)

theorem rdOf_mem {l : List ByteArray} {i : Int} (h0 : 0 ≤ i) (h1 : i < (l.length : Int)) : rdOf ByteArray.empty l i ∈ l := by
  unfold rdOf
  rw [List.getD_eq_getElem?_getD, List.getElem?_eq_getElem (by omega)]
  exact List.getElem_mem _
theorem word_ok (n : Int) (hn : -9223372036854775808 ≤ n ∧ n ≤ 9223372036854775807) : ∃ r, columbariumlaw16_Word.f n = some r ∧ r.size ≤ 20 := by
  obtain ⟨r, hr, h0, h1⟩ := pick_ok n 9 hn (by omega)
  unfold columbariumlaw16_Word.f
  rw [hr]
  simp only [Option.bind_some]
  rw [if_pos h0, if_pos (by simp; omega)]
  refine ⟨_, rfl, ?_⟩
  have := rdOf_mem (l := [(⟨#[99, 97, 116]⟩ : ByteArray), (⟨#[100, 111, 103]⟩ : ByteArray), (⟨#[111, 120]⟩ : ByteArray), (⟨#[116, 104, 101]⟩ : ByteArray), (⟨#[119, 111, 114, 100, 48]⟩ : ByteArray), (⟨#[97, 97]⟩ : ByteArray), (⟨#[122, 101, 98, 114, 97]⟩ : ByteArray), (⟨#[120, 57]⟩ : ByteArray), (⟨#[108, 111, 110, 103, 108, 111, 110, 103, 108, 111, 110, 103, 108, 111, 110, 103, 108, 111, 110, 103]⟩ : ByteArray)]) h0 (by simp; omega)
  simp only [List.mem_cons, List.not_mem_nil, or_false] at this
  rcases this with h | h | h | h | h | h | h | h | h <;> (rw [h]; decide)
theorem text_loop (l : List Int) (hl : ∀ x ∈ l, -9223372036854775808 ≤ x ∧ x ≤ 9223372036854775807) : ∀ (d : Nat) (acc : ByteArray) (i : Int) (k : Nat), 0 ≤ i → i ≤ 20 → 20 - i = d → (acc.size : Int) ≤ 22 * i → 2 * d + 3 ≤ k →
    ∃ r, columbariumlaw16_Text.l0 k l acc i = some r ∧ r.size ≤ 440
  | 0, acc, i, k, h0, h1, hd, ha, hk => by
    obtain ⟨k, rfl⟩ : ∃ m, k = m + 1 + 1 := ⟨k - 2, by omega⟩
    rw [columbariumlaw16_Text.l0]
    have hf : decide (i < 20) = false := by simp; omega
    rw [hf]
    split <;> (rw [columbariumlaw16_Text.j1]; exact ⟨acc, by simp, by omega⟩)
  | d + 1, acc, i, k, h0, h1, hd, ha, hk => by
    obtain ⟨k, rfl⟩ : ∃ m, k = m + 1 + 1 := ⟨k - 2, by omega⟩
    rw [columbariumlaw16_Text.l0]
    by_cases hlt : i < (l.length : Int)
    · have ht : decide (i < 20) = true := by simp; omega
      have hm : rd l i ∈ l := by
        unfold rd
        rw [List.getD_eq_getElem?_getD, List.getElem?_eq_getElem (by omega)]
        exact List.getElem_mem _
      have hb := hl _ hm
      obtain ⟨wd, hw, hws⟩ := word_ok (rd l i) hb
      have hq : -9223372036854775808 ≤ Int.tdiv (rd l i) 9 ∧ Int.tdiv (rd l i) 9 ≤ 9223372036854775807 := by
        obtain ⟨x, hx⟩ : ∃ x, rd l i = x := ⟨_, rfl⟩
        rw [hx] at hb ⊢
        by_cases hn : 0 ≤ x
        · rw [Int.tdiv_eq_ediv_of_nonneg hn]; omega
        · obtain ⟨y, rfl⟩ : ∃ y, x = -y := ⟨-x, by omega⟩
          rw [Int.neg_tdiv, Int.tdiv_eq_ediv_of_nonneg (by omega)]; omega
      obtain ⟨q, hq1, q0, q1⟩ := pick_ok (Int.tdiv (rd l i) 9) 5 hq (by omega)
      have hsz : (rdOf ByteArray.empty [(⟨#[32]⟩ : ByteArray), (⟨#[44, 32]⟩ : ByteArray), (⟨#[45]⟩ : ByteArray), (⟨#[10]⟩ : ByteArray), (⟨#[255, 32]⟩ : ByteArray)] q).size ≤ 2 := by
        have := rdOf_mem (l := [(⟨#[32]⟩ : ByteArray), (⟨#[44, 32]⟩ : ByteArray), (⟨#[45]⟩ : ByteArray), (⟨#[10]⟩ : ByteArray), (⟨#[255, 32]⟩ : ByteArray)]) q0 (by simp; omega)
        simp only [List.mem_cons, List.not_mem_nil, or_false] at this
        rcases this with h | h | h | h | h <;> (rw [h]; decide)
      rw [if_pos hlt, ht, columbariumlaw16_Text.j1, if_pos rfl, if_pos h0, if_pos hlt, hw]
      simp only [Option.bind_some]
      rw [if_pos (by omega), wrap64_id hq.1 hq.2, hq1]
      simp only [Option.bind_some]
      rw [if_pos q0, if_pos (by simp; omega), if_pos (by omega), wrap64_id (by omega) (by omega)]
      exact text_loop l hl d _ (i + 1) k (by omega) (by omega) (by omega) (by rw [ByteArray.size_append, ByteArray.size_append]; omega) (by omega)
    · rw [if_neg hlt, columbariumlaw16_Text.j1]
      exact ⟨acc, by simp, by omega⟩
theorem text_ok (l : List Int) (hl : ∀ x ∈ l, -9223372036854775808 ≤ x ∧ x ≤ 9223372036854775807) (k : Nat) (hk : 50 ≤ k) : ∃ r, columbariumlaw16_Text.f k l = some r ∧ r.size ≤ 440 := by
  unfold columbariumlaw16_Text.f
  exact text_loop l hl 20 _ 0 k (by omega) (by omega) (by omega) (by simp [ByteArray.size]) (by omega)

theorem great_loop (s : ByteArray) (hs : s.size ≤ 4096) : ∀ (d : Nat) (acc : List Int) (i : Int) (k : Nat), 0 ≤ i → (s.size : Int) - i = d → acc.length = i.toNat → d + 1 ≤ k →
    columbariumlaw16_great.l0 k s acc i = some (strOfNums (acc ++ ((bytesOf s).drop i.toNat).map greatB))
  | 0, acc, i, k, h0, hd, ha, hk => by
    obtain ⟨k, rfl⟩ : ∃ m, k = m + 1 := ⟨k - 1, by omega⟩
    unfold columbariumlaw16_great.l0
    rw [if_neg (by omega), List.drop_eq_nil_of_le (by rw [bytesOf_length]; omega)]
    simp
  | d + 1, acc, i, k, h0, hd, ha, hk => by
    obtain ⟨k, rfl⟩ : ∃ m, k = m + 1 := ⟨k - 1, by omega⟩
    have hi : i.toNat < (bytesOf s).length := by rw [bytesOf_length]; omega
    have he : bt s i = (bytesOf s)[i.toNat] := by
      rw [← rd_bytesOf]
      unfold rd; rw [List.getD_eq_getElem?_getD, List.getElem?_eq_getElem hi]; rfl
    have hd1 : (bytesOf s).drop i.toNat = bt s i :: (bytesOf s).drop (i + 1).toNat := by
      rw [show (i + 1).toNat = i.toNat + 1 by omega, he]; exact List.drop_eq_getElem_cons hi
    have hg : ∀ x : Int, x = greatB (bt s i) → columbariumlaw16_great.l0 k s (acc ++ [x]) (wrap64 (i + 1)) = some (strOfNums (acc ++ ((bytesOf s).drop i.toNat).map greatB)) := fun x hx => by
      rw [wrap64_id (by omega) (by omega), great_loop s hs d _ (i + 1) k (by omega) (by omega) (by simp; omega) (by omega), hd1, hx]
      simp
    have hr := bt_range s i
    unfold columbariumlaw16_great.l0
    rw [if_pos (by omega), if_pos h0]
    by_cases c1 : bt s i ≥ 97
    · by_cases c2 : bt s i ≤ 122
      · rw [if_pos c1, if_pos c2, if_pos (by omega)]
        exact hg _ (by unfold greatB; rw [if_pos ⟨c1, c2⟩]; omega)
      · rw [if_pos c1, if_neg c2, if_pos (by omega)]
        exact hg _ (by unfold greatB; rw [if_neg (by omega)])
    · rw [if_neg c1, if_pos (by omega)]
      exact hg _ (by unfold greatB; rw [if_neg (by omega)])
def greatOf (s : ByteArray) : ByteArray := strOfNums ((bytesOf s).map greatB)
theorem great_eq (s : ByteArray) (k : Nat) (hs : s.size ≤ 4096) (hk : 4097 ≤ k) : columbariumlaw16_great.f k s = some (greatOf s) := by
  unfold columbariumlaw16_great.f
  rw [great_loop s hs s.size [] 0 k (by omega) (by omega) rfl (by omega)]
  rfl
theorem greatOf_bytes (s : ByteArray) : bytesOf (greatOf s) = (bytesOf s).map greatB := by
  refine bytesOf_strOfNums ?_
  intro b hb
  obtain ⟨c, hc, rfl⟩ := List.mem_map.1 hb
  have := bytesOf_byte s c hc
  unfold greatB Byte at *
  split <;> omega
theorem greatOf_size (s : ByteArray) : (greatOf s).size = s.size := by unfold greatOf; rw [strOfNums_size, List.length_map, bytesOf_length]
theorem words_great (s : ByteArray) : wordsOf (greatOf s) = wordsOf s := by
  refine wordsOf_sign ?_
  rw [greatOf_bytes, List.map_map]
  exact List.map_congr_left fun b _ => signOf_great b

theorem sorted_the : sorted [[116, 104, 101], [99, 97, 116], [116, 104, 101]] = [[99, 97, 116], [116, 104, 101], [116, 104, 101]] := by
  have a : ¬ ([116, 104, 101] : List UInt8) ≤ [99, 97, 116] := by decide
  have b : ([99, 97, 116] : List UInt8) ≤ [116, 104, 101] := by decide
  have c : ([116, 104, 101] : List UInt8) ≤ [116, 104, 101] := by decide
  simp [sorted, List.mergeSort, List.MergeSort.Internal.splitInTwo, List.merge, a, b, c]
theorem awake_ok (k : Nat) (hk : 5000 ≤ k) : columbariumlaw16_awake.f k = some true := by
  have e1 : wordsOf (⟨#[84, 104, 101, 32, 97, 45, 99, 97, 116, 44, 32, 116, 104, 101]⟩ : ByteArray) = [(⟨#[116, 104, 101]⟩ : ByteArray), (⟨#[99, 97, 116]⟩ : ByteArray), (⟨#[116, 104, 101]⟩ : ByteArray)] := by kernel_rfl
  have e2 : setOf (⟨#[84, 104, 101, 32, 97, 45, 99, 97, 116, 44, 32, 116, 104, 101]⟩ : ByteArray) = [(⟨#[99, 97, 116]⟩ : ByteArray), (⟨#[116, 104, 101]⟩ : ByteArray)] := by
    unfold setOf onceOf
    rw [e1]
    show (Lib.compact (sorted [[116, 104, 101], [99, 97, 116], [116, 104, 101]])).map lb = _
    rw [sorted_the]
    kernel_rfl
  have m1 : mayOf (⟨#[99, 97, 116]⟩ : ByteArray) = true := by decide
  have m2 : mayOf (⟨#[67, 97, 116]⟩ : ByteArray) = false := by decide
  unfold columbariumlaw16_awake.f
  rw [split_le (by decide), e1]
  simp only [Option.bind_some]
  unfold words_Set.f
  rw [if_neg (by decide), e2, if_neg (by decide)]
  simp only [Option.bind_some]
  rw [texts_same _ k (by decide) (by omega)]
  simp only [Option.bind_some, if_true]
  rw [texts_same _ k (by decide) (by omega)]
  simp only [Option.bind_some, if_true]
  rw [may_eq _ k (by decide) (by omega), m1]
  simp only [Option.bind_some, if_true]
  rw [may_eq _ k (by decide) (by omega), m2]
  simp only [Option.bind_some, Bool.false_eq_true, if_false]
  rw [sign_eq k 65 (by omega) (by omega) (by omega)]
  simp only [Option.bind_some]
  rw [if_pos (by decide), sign_eq k 45 (by omega) (by omega) (by omega)]
  rfl
end Go.Proofs.Ytpmjnggkhjjiaaa.A
