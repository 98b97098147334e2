/- What the law's own helpers answer: pick, Few, Texts, awake; and the document's writers. -/
import Derived.Test.YtmddhiokioojlaaCodecMore
namespace Go.Proofs.Ytmddhiokioojlaa.A
open Go.RowKit Go.Proofs.YtmddhiokioojlaaW.PrintWords Go.Proofs.YtmddhiokioojlaaW.PrintLast Go.Proofs.YtmddhiokioojlaaW.PrintMore
set_option linter.unusedSimpArgs false
set_option linter.unusedVariables false

theorem toList_loop (s : ByteArray) : ∀ (d i : Nat) (r : List UInt8), s.size - i = d → ByteArray.toList.loop s i r = r.reverse ++ s.data.toList.drop i
  | 0, i, r, h => by
    unfold ByteArray.toList.loop
    rw [if_neg (by omega), List.drop_eq_nil_of_le (by rw [Array.length_toList]; show s.size ≤ i; omega), List.append_nil]
  | d + 1, i, r, h => by
    unfold ByteArray.toList.loop
    have hi : i < s.data.toList.length := by rw [Array.length_toList]; show i < s.size; omega
    rw [if_pos (by omega), toList_loop s d _ _ (by omega), List.drop_eq_getElem_cons hi, List.reverse_cons, List.append_assoc]
    congr 2
    have hi' : i < s.data.size := by simpa using hi
    simp only [List.reverse_nil, List.nil_append, List.singleton_append, Array.getElem_toList, List.cons.injEq, and_true, ByteArray.get!]
    exact getElem!_pos s.data i hi'
theorem toList_data (s : ByteArray) : s.toList = s.data.toList := by
  unfold ByteArray.toList
  rw [toList_loop s _ 0 [] rfl]; rfl
theorem toList_inj {a b : ByteArray} (h : a.toList = b.toList) : a = b := ba_ext (by rw [← toList_data, ← toList_data, h])

theorem pick_ok (a n : Int) (ha : -9223372036854775808 ≤ a ∧ a ≤ 9223372036854775807) (hn : 0 < n) : ∃ r, columbariumlaw10_pick.f a n = some r ∧ 0 ≤ r ∧ r < n := by
  unfold columbariumlaw10_pick.f
  by_cases h : a < 0
  · rw [if_pos h, if_neg (show ¬ n = 0 by omega), wrap64_id (n := a + 1) (by omega) (by omega), wrap64_id (n := -(a + 1)) (by omega) (by omega)]
    exact ⟨_, rfl, Int.tmod_nonneg _ (show 0 ≤ -(a + 1) by omega), Int.tmod_lt_of_pos _ hn⟩
  · rw [if_neg h, if_neg (show ¬ n = 0 by omega)]
    exact ⟨_, rfl, Int.tmod_nonneg _ (Int.not_lt.1 h), Int.tmod_lt_of_pos _ hn⟩
theorem mn_le (a : Nat) (b : Int) (h : 0 ≤ b) : 0 ≤ mn (a : Int) b ∧ mn (a : Int) b ≤ a ∧ mn (a : Int) b ≤ b := by unfold mn; split <;> omega
theorem cut_size (s : ByteArray) (b : Int) (h : 0 ≤ b) : (s.extract 0 (mn (s.size : Int) b).toNat).size = (mn (s.size : Int) b).toNat ∧ ((s.extract 0 (mn (s.size : Int) b).toNat).size : Int) ≤ b := by
  have := mn_le s.size b h
  rw [ByteArray.size_extract]; omega
theorem few_loop (l : List ByteArray) : ∀ (d : Nat) (acc : List ByteArray) (i : Int) (k : Nat), 0 ≤ i → i ≤ 12 → 12 - i = d → acc.length ≤ i → (∀ x ∈ acc, x.size ≤ 50) → d + 1 ≤ k →
    ∃ r, columbariumlaw10_Few.l0 k l acc i = some r ∧ r.length ≤ 12 ∧ ∀ x ∈ r, x.size ≤ 50
  | 0, acc, i, k, h0, h1, hd, hl, ha, hk => by
    obtain ⟨k, rfl⟩ : ∃ m, k = m + 1 := ⟨k - 1, by omega⟩
    unfold columbariumlaw10_Few.l0
    by_cases c : i < (l.length : Int)
    · rw [if_pos c, if_neg (by omega)]; exact ⟨_, rfl, by omega, ha⟩
    · rw [if_neg c]; exact ⟨_, rfl, by omega, ha⟩
  | d + 1, acc, i, k, h0, h1, hd, hl, ha, hk => by
    obtain ⟨k, rfl⟩ : ∃ m, k = m + 1 := ⟨k - 1, by omega⟩
    unfold columbariumlaw10_Few.l0
    by_cases c : i < (l.length : Int)
    · have hm := mn_le (rdOf ByteArray.empty l i).size 50 (by omega)
      rw [if_pos c, if_pos (by omega), if_pos h0, if_pos hm.1, if_pos hm.2.1, if_pos (by omega), wrap64_id (by omega) (by omega)]
      refine few_loop l d _ _ _ (by omega) (by omega) (by omega) (by simp; omega) ?_ (by omega)
      intro x hx
      rcases List.mem_append.1 hx with h | h
      · exact ha x h
      · rw [List.mem_singleton.1 h, ByteArray.size_extract]; omega
    · rw [if_neg c]; exact ⟨_, rfl, by omega, ha⟩
theorem few_ok (l : List ByteArray) (k : Nat) (hk : 13 ≤ k) : ∃ r, columbariumlaw10_Few.f k l = some r ∧ r.length ≤ 12 ∧ ∀ x ∈ r, x.size ≤ 50 := by
  unfold columbariumlaw10_Few.f
  exact few_loop l 12 [] 0 k (by omega) (by omega) (by omega) (by simp) (by simp) (by omega)
theorem texts_loop (l : List ByteArray) (hl : l.length ≤ 1000) : ∀ (d : Nat) (i : Int) (k : Nat), 0 ≤ i → (l.length : Int) - i = d → d + 1 ≤ k → columbariumref10_Texts.l0 k l l i = some true
  | 0, i, k, h0, hd, hk => by
    obtain ⟨k, rfl⟩ : ∃ m, k = m + 1 := ⟨k - 1, by omega⟩
    unfold columbariumref10_Texts.l0
    rw [if_neg (by omega)]
  | d + 1, i, k, h0, hd, hk => by
    obtain ⟨k, rfl⟩ : ∃ m, k = m + 1 := ⟨k - 1, by omega⟩
    unfold columbariumref10_Texts.l0
    rw [if_pos (by omega), if_pos h0, if_pos (by omega), if_pos rfl, wrap64_id (by omega) (by omega)]
    exact texts_loop l hl d _ _ (by omega) (by omega) (by omega)
theorem texts_same (l : List ByteArray) (k : Nat) (hl : l.length ≤ 1000) (hk : 1001 ≤ k) : columbariumref10_Texts.f k l l = some true := by
  unfold columbariumref10_Texts.f
  rw [if_pos rfl]
  exact texts_loop l hl l.length 0 k (by omega) (by omega) (by omega)
theorem tTexts_length {s : ByteArray} (n : Nat) (a : Int) : (tTexts s n a).1.length ≤ n := by
  by_cases h : (tTexts s n a).2.2 = 0
  · exact Nat.le_of_eq (tTexts_at n a h).2.1
  · cases n with
    | zero => exact Nat.zero_le _
    | succ n =>
      by_cases h1 : (tText s a).2.2.2 = 0
      · by_cases h3 : (tTexts s n (tText s a).2.2.1).2.2 = 0
        · rw [tTexts_yes h1 h3] at h; exact absurd rfl h
        · rw [tTexts_no h1 h3]; exact Nat.zero_le _
      · rw [tTexts_not h1]; exact Nat.zero_le _
theorem tList_length (s : ByteArray) (a : Int) : (tList s a).1.length ≤ 1000 := by
  by_cases h : (tList s a).2.2.2 = 0
  · exact (tList_back h).2.2.2.1
  · unfold tList at h ⊢
    repeat' split
    all_goals first | exact Nat.zero_le _ | skip
    have := tTexts_length (s := s) (be4 s a).toNat (a + 4)
    have hb := be4_range s a
    simp only; omega

theorem ref_number (n : Int) : columbariumref10_Number.f n = if n < 0 ∨ n > 2147483647 then some (⟨#[]⟩, 1) else some (numB n, 0) := by
  unfold columbariumref10_Number.f
  by_cases h : n < 0
  · rw [if_pos h, if_pos (.inl h)]
  · by_cases h2 : n > 2147483647
    · rw [if_neg h, if_pos h2, if_pos (.inr h2)]
    · rw [if_neg h, if_neg h2, if_neg (by omega)]
      unfold numB
      have t1 : Int.tdiv n 16777216 = n / 16777216 := Int.tdiv_eq_ediv_of_nonneg (by omega)
      have t2 : Int.tdiv n 65536 = n / 65536 := Int.tdiv_eq_ediv_of_nonneg (by omega)
      have t3 : Int.tdiv n 256 = n / 256 := Int.tdiv_eq_ediv_of_nonneg (by omega)
      rw [t1, t2, t3, wrap64_id (by omega) (by omega), wrap64_id (by omega) (by omega), wrap64_id (by omega) (by omega), Int.tmod_eq_emod_of_nonneg (by omega), Int.tmod_eq_emod_of_nonneg (by omega), Int.tmod_eq_emod_of_nonneg (by omega), Int.emod_emod_of_dvd _ (by decide), Int.emod_emod_of_dvd _ (by decide), Int.emod_emod_of_dvd _ (by decide)]
theorem number_eq (n : Int) : codec_Number.f n = if n < 0 ∨ n > 2147483647 then some (⟨#[]⟩, 1) else some (numB n, 0) := by
  by_cases h : n < 0 ∨ n > 2147483647
  · rw [if_pos h]
    unfold codec_Number.f
    by_cases h1 : n < 0
    · rw [if_pos h1]
    · rw [if_neg h1, if_pos (by omega)]
  · rw [if_neg h]; exact number_some n (by omega) (by omega)
theorem ref_number_eq (n : Int) : columbariumref10_Number.f n = codec_Number.f n := by rw [ref_number, number_eq]
theorem number_ok (n : Int) : ∃ r, codec_Number.f n = some r := by rw [number_eq]; split <;> exact ⟨_, rfl⟩
theorem ref_text_w (s : ByteArray) : columbariumref10_Text.f s = some (textOf s) := by
  rw [← text_some]
  unfold columbariumref10_Text.f codec_Text.f
  rw [ref_number_eq]
theorem textOf_size (s : ByteArray) : (textOf s).1.size ≤ 65540 := framedOf_size s
theorem ref_list_w (l : List ByteArray) (hl : l.length ≤ 1000) : ∀ (d : Nat) (acc : ByteArray) (i : Int) (k : Nat), 0 ≤ i → (l.length : Int) - i = d → acc.size ≤ 65536 → d + 1 ≤ k →
    columbariumref10_List.l0 k l acc i = (match runL acc ((l.drop i.toNat).map frOf) with | some a => some (a, 0) | none => some (⟨#[]⟩, 2))
  | 0, acc, i, k, h0, hd, ha, hk => by
    obtain ⟨k, rfl⟩ : ∃ m, k = m + 1 := ⟨k - 1, by omega⟩
    unfold columbariumref10_List.l0
    rw [if_neg (by omega), List.drop_eq_nil_of_le (by omega)]
    rfl
  | d + 1, acc, i, k, h0, hd, ha, hk => by
    obtain ⟨k, rfl⟩ : ∃ m, k = m + 1 := ⟨k - 1, by omega⟩
    have hi : i.toNat < l.length := by omega
    have he : rdOf ByteArray.empty l i = l[i.toNat] := by
      unfold rdOf; rw [List.getD_eq_getElem?_getD, List.getElem?_eq_getElem hi]; rfl
    have hd1 : l.drop i.toNat = l[i.toNat] :: l.drop (i + 1).toNat := by
      rw [show (i + 1).toNat = i.toNat + 1 by omega]; exact List.drop_eq_getElem_cons hi
    unfold columbariumref10_List.l0
    rw [if_pos (by omega), if_pos h0, ref_text_w, he, hd1]
    obtain ⟨t, ht⟩ : ∃ t, l[i.toNat] = t := ⟨_, rfl⟩
    rw [ht]
    have hz := textOf_size t
    simp only [Option.bind_some, List.map_cons, runL]
    have e : (frOf t).1 = ((textOf t).1, (textOf t).2 == 0) := rfl
    rw [e]
    by_cases h1 : (textOf t).2 = 0
    · rw [if_pos h1, wrap64_id (by omega) (by omega)]
      by_cases h2 : (acc.size : Int) + ((textOf t).1.size : Int) > 65536
      · have hneg : ¬ (((textOf t).2 == 0) = true ∧ (acc ++ (textOf t).1).size ≤ 65536) := by
          rintro ⟨_, h⟩; rw [ByteArray.size_append] at h; omega
        rw [if_pos h2]
        simp only [if_neg hneg]
      · have hpos : ((textOf t).2 == 0) = true ∧ (acc ++ (textOf t).1).size ≤ 65536 := ⟨by rw [h1]; rfl, by rw [ByteArray.size_append]; omega⟩
        rw [if_neg h2, if_pos (by omega), wrap64_id (by omega) (by omega), ref_list_w l hl d _ (i + 1) k (by omega) (by omega) (by rw [ByteArray.size_append]; omega) (by omega)]
        simp only [if_pos hpos]
    · have hneg : ¬ (((textOf t).2 == 0) = true ∧ (acc ++ (textOf t).1).size ≤ 65536) := by
        rintro ⟨h, _⟩; exact h1 (by simpa using h)
      rw [if_neg h1]
      simp only [if_neg hneg]
theorem ref_list_w_eq (l : List ByteArray) (k : Nat) (hk : 1001 ≤ k) : columbariumref10_List.f k l = some (listOf l) := by
  unfold columbariumref10_List.f listOf
  by_cases h : l.length > 1000
  · rw [if_pos (by omega), if_pos h]
  · rw [if_neg (by omega), if_neg h, ref_number, if_neg (by omega)]
    simp only [Option.bind_some]
    rw [ref_list_w l (by omega) l.length _ 0 k (by omega) (by omega) (by rw [numB_size]; omega) (by omega)]
    simp only [Int.toNat_zero, List.drop_zero]
    cases runL (numB (l.length : Int)) (l.map frOf) <;> rfl

theorem awake_ok (k : Nat) (hk : 1010 ≤ k) : columbariumlaw10_awake.f k = some true := by
  have e1 : listOf [(⟨#[97]⟩ : ByteArray), (⟨#[]⟩ : ByteArray)] = (⟨#[0, 0, 0, 2, 0, 0, 0, 1, 97, 0, 0, 0, 0]⟩, 0) := by rfl
  have e2 : tList (⟨#[0, 0, 0, 2, 0, 0, 0, 1, 97, 0, 0, 0, 0]⟩ ++ (⟨#[120]⟩ : ByteArray)) 0 = ([(⟨#[97]⟩ : ByteArray), (⟨#[]⟩ : ByteArray)], ⟨#[0, 0, 0, 2, 0, 0, 0, 1, 97, 0, 0, 0, 0, 120]⟩, 13, 0) := by kernel_rfl
  have e3 : tNum ⟨#[120, 0, 0, 1, 2]⟩ 1 = (258, ⟨#[120, 0, 0, 1, 2]⟩, 5, 0) := by kernel_rfl
  have e4 : tText ⟨#[0, 0, 0, 1]⟩ 0 = (⟨#[]⟩, ⟨#[0, 0, 0, 1]⟩, 0, 10) := by kernel_rfl
  have e5 : codec_Number.f (-1) = some (⟨#[]⟩, 1) := by rfl
  have e6 : codec_End.f ⟨#[0, 0, 0, 2, 0, 0, 0, 1, 97, 0, 0, 0, 0, 120]⟩ 13 = some 13 := by rfl
  unfold columbariumlaw10_awake.f codec_List.f
  simp only [Option.bind_some, e1]
  rw [if_pos (by decide), list_eq _ _ k hk, e2, num_eq _ _ k (by omega), e3, text_eq _ _ k (by omega), e4, e5]
  simp only [Option.bind_some, texts_same _ k (show [(⟨#[97]⟩ : ByteArray), (⟨#[]⟩ : ByteArray)].length ≤ 1000 by decide) (by omega), e6]
  rw [if_pos (by rw [toList_data])]
  simp only [toList_data, if_true]
  rfl
end Go.Proofs.Ytmddhiokioojlaa.A
