/- The document's codec answers the same. -/
import Derived.Test.YtmddhiokioojlaaCodecPure
import Derived.Test.YtmddhiokioojlaaHand
import Derived.Test.YtmddhiokioojlaaAx11
namespace Go.Proofs.Ytmddhiokioojlaa.A
open Go.RowKit Go.Proofs.YtmddhiokioojlaaW.PrintWords Go.Proofs.YtmddhiokioojlaaW.PrintLast Go.Proofs.YtmddhiokioojlaaW.PrintMore

theorem ref_right_eq (s : ByteArray) (a : Int) : columbariumref10_right.f s a = some (rgt s a) := by
  unfold columbariumref10_right.f rgt
  by_cases h1 : (s.size : Int) ≤ 65536
  · by_cases h2 : a ≥ 0
    · simp [h1, h2]
    · simp [h1, h2]
  · simp [h1]
theorem ref_end_eq (s : ByteArray) (a : Int) : columbariumref10_End.f s a = some (endOf s a) := by
  unfold columbariumref10_End.f endOf
  rw [ref_right_eq]
  simp only [Option.bind_some]
  repeat' split
  all_goals rfl
theorem ref_num_loop (s : ByteArray) (a : Int) (h0 : 0 ≤ a) (h4 : a + 4 ≤ (s.size : Int)) (hs : (s.size : Int) ≤ 65536) (k : Nat) (hk : 5 ≤ k) :
    columbariumref10_TakeNumber.l0 k 0 0 s a = if be4 s a > 2147483647 then some (0, s, a, 13) else some (be4 s a, s, a + 4, 0) := by
  obtain ⟨k, rfl⟩ : ∃ m, k = m + 5 := ⟨k - 5, by omega⟩
  have r0 := bt_range s a; have r1 := bt_range s (a + 1); have r2 := bt_range s (a + 2); have r3 := bt_range s (a + 3)
  unfold columbariumref10_TakeNumber.l0
  rw [if_pos (by omega), wrap64_id (n := a + 0) (by omega) (by omega), if_pos (by omega), if_pos (by omega), Int.add_zero, wrap64_id (n := bt s a) (by omega) (by omega), wrap64_id (n := 256 * 0) (by omega) (by omega), wrap64_id (n := 256 * 0 + bt s a) (by omega) (by omega), wrap64_id (n := 0 + 1) (by omega) (by omega)]
  unfold columbariumref10_TakeNumber.l0
  rw [if_pos (by omega), show (0 : Int) + 1 = 1 from rfl, wrap64_id (n := a + 1) (by omega) (by omega), if_pos (by omega), if_pos (by omega), wrap64_id (n := bt s (a + 1)) (by omega) (by omega), wrap64_id (n := 256 * _) (by omega) (by omega), wrap64_id (n := _ + bt s (a + 1)) (by omega) (by omega), wrap64_id (n := 1 + 1) (by omega) (by omega)]
  unfold columbariumref10_TakeNumber.l0
  rw [if_pos (by omega), show (1 : Int) + 1 = 2 from rfl, wrap64_id (n := a + 2) (by omega) (by omega), if_pos (by omega), if_pos (by omega), wrap64_id (n := bt s (a + 2)) (by omega) (by omega), wrap64_id (n := 256 * _) (by omega) (by omega), wrap64_id (n := _ + bt s (a + 2)) (by omega) (by omega), wrap64_id (n := 2 + 1) (by omega) (by omega)]
  unfold columbariumref10_TakeNumber.l0
  rw [if_pos (by omega), show (2 : Int) + 1 = 3 from rfl, wrap64_id (n := a + 3) (by omega) (by omega), if_pos (by omega), if_pos (by omega), wrap64_id (n := bt s (a + 3)) (by omega) (by omega), wrap64_id (n := 256 * _) (by omega) (by omega), wrap64_id (n := _ + bt s (a + 3)) (by omega) (by omega), wrap64_id (n := 3 + 1) (by omega) (by omega)]
  unfold columbariumref10_TakeNumber.l0
  rw [if_neg (by omega), wrap64_id (n := a + 4) (by omega) (by omega)]
  have e : 256 * (256 * (256 * (256 * 0 + bt s a) + bt s (a + 1)) + bt s (a + 2)) + bt s (a + 3) = be4 s a := by unfold be4; omega
  rw [e]
theorem ref_num_eq (s : ByteArray) (a : Int) (k : Nat) (hk : 5 ≤ k) : columbariumref10_TakeNumber.f k s a = some (tNum s a) := by
  unfold columbariumref10_TakeNumber.f tNum
  rw [ref_right_eq]
  simp only [Option.bind_some]
  by_cases hr : rgt s a = true
  · obtain ⟨h1, h2, h3⟩ := rgt_true hr
    rw [if_pos hr, if_pos hr, wrap64_id (by omega) (by omega)]
    by_cases h4 : (s.size : Int) - a < 4
    · rw [if_pos h4, if_pos h4]
    · rw [if_neg h4, if_neg h4, ref_num_loop s a h2 (by omega) h1 k hk]
      split <;> rfl
  · rw [if_neg hr, if_neg hr]
theorem ref_text_eq (s : ByteArray) (a : Int) (k : Nat) (hk : 5 ≤ k) : columbariumref10_TakeText.f k s a = some (tText s a) := by
  unfold columbariumref10_TakeText.f
  rw [ref_num_eq s a k hk]
  unfold tText
  by_cases h : (tNum s a).2.2.2 = 0
  · obtain ⟨hr, h4, hm, e⟩ := tNum_ok h
    have hb := be4_range s a
    obtain ⟨h1, h2, h3⟩ := rgt_true hr
    rw [e]
    simp only [Option.bind_some, if_true]
    rw [wrap64_id (n := (s.size : Int) - (a + 4)) (by omega) (by omega), wrap64_id (n := a + 4 + be4 s a) (by omega) (by omega)]
    by_cases h5 : (s.size : Int) - (a + 4) < be4 s a
    · rw [if_pos h5, if_pos h5]
    · rw [if_neg h5, if_neg h5, if_pos (by omega), if_pos (by omega), if_pos (by omega)]
  · rw [tNum_no h]
    simp only [Option.bind_some]
    rw [if_neg h, if_neg h]
theorem ref_list_loop (s s0 : ByteArray) (a0 : Int) : ∀ (d : Nat) (acc : List ByteArray) (n i a : Int) (k : Nat), 0 ≤ i → n - i = d → n ≤ 1000 → acc.length ≤ i.toNat → d + 6 ≤ k →
    columbariumref10_TakeList.l0 k n acc i s0 a0 s a = if (tTexts s d a).2.2 = 0 then some (acc ++ (tTexts s d a).1, s, (tTexts s d a).2.1, 0) else some ([], s0, a0, (tTexts s d a).2.2)
  | 0, acc, n, i, a, k, h0, hd, hn, hacc, hk => by
    obtain ⟨k, rfl⟩ : ∃ m, k = m + 1 := ⟨k - 1, by omega⟩
    unfold columbariumref10_TakeList.l0
    rw [if_neg (by omega)]
    simp [tTexts]
  | d + 1, acc, n, i, a, k, h0, hd, hn, hacc, hk => by
    obtain ⟨k, rfl⟩ : ∃ m, k = m + 1 := ⟨k - 1, by omega⟩
    unfold columbariumref10_TakeList.l0
    rw [if_pos (by omega), ref_text_eq s a k (by omega)]
    simp only [Option.bind_some]
    by_cases h1 : (tText s a).2.2.2 = 0
    · obtain ⟨_, _, e⟩ := tText_ok h1
      have h2 : (tText s a).2.1 = s := by rw [e]
      rw [if_pos h1, if_pos (by omega), wrap64_id (by omega) (by omega), h2, ref_list_loop s s0 a0 d _ n (i + 1) _ k (by omega) (by omega) hn (by simp; omega) (by omega)]
      by_cases h3 : (tTexts s d (tText s a).2.2.1).2.2 = 0
      · simp only [tTexts_yes h1 h3, if_pos h3]; simp
      · simp only [tTexts_no h1 h3, if_neg h3]
    · rw [if_neg h1]
      simp only [tTexts_not h1, if_neg h1]
theorem ref_list_eq (s : ByteArray) (a : Int) (k : Nat) (hk : 1010 ≤ k) : columbariumref10_TakeList.f k s a = some (tList s a) := by
  unfold columbariumref10_TakeList.f
  rw [ref_num_eq s a k (by omega)]
  unfold tList
  by_cases h : (tNum s a).2.2.2 = 0
  · obtain ⟨hr, h4, hm, e⟩ := tNum_ok h
    have hb := be4_range s a
    rw [e]
    simp only [Option.bind_some, if_true]
    by_cases h5 : be4 s a > 1000
    · rw [if_pos h5, if_pos h5]
    · rw [if_neg h5, if_neg h5, ref_list_loop s s a (be4 s a).toNat [] (be4 s a) 0 (a + 4) k (by omega) (by omega) (by omega) (by simp) (by omega)]
      by_cases h6 : (tTexts s (be4 s a).toNat (a + 4)).2.2 = 0
      · rw [if_pos h6, if_pos h6]; simp
      · rw [if_neg h6, if_neg h6]
  · rw [tNum_no h]
    simp only [Option.bind_some]
    rw [if_neg h, if_neg h]
end Go.Proofs.Ytmddhiokioojlaa.A
