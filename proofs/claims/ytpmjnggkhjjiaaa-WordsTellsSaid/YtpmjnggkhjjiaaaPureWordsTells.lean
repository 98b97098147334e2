/- Words, signs, and what a text's words are, are as the document says: for every text (of which at most five hundred bytes are looked at), every byte and every list of raw numbers. No condition. -/
import Derived.Test.YtpmjnggkhjjiaaaWordsRef
import Derived.Test.YtpmjnggkhjjiaaaAx10
import Derived.OpenShut
namespace Go.Proofs.Ytpmjnggkhjjiaaa.Pure
open Go.RowKit Go.Proofs.Ytpmjnggkhjjiaaa.A Go.Proofs.YtpmjnggkhjjiaaaW.PrintWords Go.Proofs.YtpmjnggkhjjiaaaW.PrintLast Go.Proofs.YtpmjnggkhjjiaaaW.PrintMore
set_option linter.unusedVariables false
set_option linter.unusedSimpArgs false

theorem tells_inner (a : List ByteArray) (hg : ∀ w ∈ a, GoodWord w) (x1 x3 : Int) (l : List ByteArray) (n j : Int) (K : Nat) (hK : 9000 ≤ K)
    (hc : ∀ k', K ≤ k' → columbariumlaw16_WordsTells.l0 k' x1 x3 true l n (wrap64 (j + 1)) = some true) :
    ∀ (d : Nat) (i : Int) (k : Nat), 0 ≤ i → 9 - i = d → K + d + 2 ≤ k → columbariumlaw16_WordsTells.l1 k x1 x3 true a i l n j = some true
  | 0, i, k, h0, hd, hk => by
    obtain ⟨k, rfl⟩ : ∃ m, k = m + 1 := ⟨k - 1, by omega⟩
    rw [columbariumlaw16_WordsTells.l1, if_neg (show ¬ i < 9 by omega)]
    split <;> exact hc k (by omega)
  | d + 1, i, k, h0, hd, hk => by
    obtain ⟨k, rfl⟩ : ∃ m, k = m + 1 := ⟨k - 1, by omega⟩
    rw [columbariumlaw16_WordsTells.l1]
    by_cases h : i < (a.length : Int)
    · have hw := hg _ (rdOf_mem (l := a) h0 h)
      have hs := hw.2.1
      rw [if_pos h, if_pos (by omega), if_pos h0, may_eq _ k (by omega) (by omega)]
      simp only [Option.bind_some]
      rw [refMay_eq _ k (by omega) (by omega)]
      simp only [Option.bind_some, bne_self_eq_false, Bool.false_eq_true, if_false]
      rw [wrap64_id (by omega) (by omega)]
      exact tells_inner a hg x1 x3 l n j K hK hc d (i + 1) k (by omega) (by omega) (by omega)
    · rw [if_neg h]; exact hc k (by omega)

theorem words_zeros (n : Nat) : wordsOf (strOfNums (List.replicate n 0)) = [] := by
  rw [wordsOf_eq, bytesOf_strOfNums (fun b hb => by rw [(List.mem_replicate.1 hb).2]; exact ⟨by omega, by omega⟩)]
  have : ∀ m : Nat, (List.replicate m (0 : Int) ++ [0]).foldl wstep ([], []) = ([], []) := by
    intro m
    induction m with
    | zero => rfl
    | succ m ih =>
      rw [List.replicate_succ, List.cons_append, List.foldl_cons]
      exact ih
  rw [this]
theorem tells_end (x1 x3 : Int) (h1 : 0 ≤ x1 ∧ x1 ≤ 255) (h3 : -9223372036854775808 ≤ x3 ∧ x3 ≤ 9223372036854775807) (l : List ByteArray) (k : Nat) (hk : 9000 ≤ k) :
    columbariumlaw16_WordsTells.l0 (k + 1) x1 x3 true l l.length l.length = some true := by
  have hp := pk_range x3 5 (by omega)
  rw [columbariumlaw16_WordsTells.l0, if_neg (by omega), pick_eq x3 5 h3 (by omega)]
  simp only [Option.bind_some]
  rw [wrap64_id (by omega) (by omega), if_pos (by omega), if_pos (by omega)]
  obtain ⟨n, hn⟩ : ∃ n : Nat, 1998 + pk x3 5 = n := ⟨(1998 + pk x3 5).toNat, by omega⟩
  rw [hn, Int.toNat_natCast]
  have hz : (strOfNums (List.replicate n 0)).size = n := by rw [strOfNums_size, List.length_replicate]
  have hw := words_zeros n
  rw [refSign_eq k x1 (by omega) h1.1 h1.2, sign_eq k x1 (by omega) h1.1 h1.2]
  unfold words_Split.f words_Set.f setOf
  rw [hz, hw, onceOf_nil]
  by_cases c : (n : Int) > 2000
  · have c' : ¬ (n : Int) ≤ 2000 := by omega
    simp [c, c']
  · have c' : (n : Int) ≤ 2000 := by omega
    simp [c, c']
theorem tells_outer (x1 x3 : Int) (h1 : 0 ≤ x1 ∧ x1 ≤ 255) (h3 : -9223372036854775808 ≤ x3 ∧ x3 ≤ 9223372036854775807) (l : List ByteArray) (hl : ∀ x ∈ l, x.size ≤ 2000) (hn : l.length ≤ 10) : ∀ (d : Nat) (j : Int) (k : Nat), 0 ≤ j → (l.length : Int) - j = d → 9001 + 20 * d ≤ k →
    columbariumlaw16_WordsTells.l0 k x1 x3 true l l.length j = some true
  | 0, j, k, h0, hd, hk => by
    obtain ⟨k, rfl⟩ : ∃ m, k = m + 1 := ⟨k - 1, by omega⟩
    obtain rfl : j = l.length := by omega
    exact tells_end x1 x3 h1 h3 l k (by omega)
  | d + 1, j, k, h0, hd, hk => by
    obtain ⟨k, rfl⟩ : ∃ m, k = m + 1 := ⟨k - 1, by omega⟩
    have hj : j < (l.length : Int) := by omega
    have hx := hl _ (rdOf_mem (l := l) h0 hj)
    have hwl := wordsOf_length (rdOf ByteArray.empty l j)
    obtain ⟨y, hy⟩ : ∃ y, rdOf ByteArray.empty l j = y := ⟨_, rfl⟩
    rw [hy] at hx hwl
    obtain ⟨b, hb⟩ : ∃ b, words_Set.f y = some b ∧ b.1.length ≤ 2001 := by
      unfold words_Set.f
      rw [if_neg (by omega)]
      split
      · exact ⟨_, rfl, by simp⟩
      · exact ⟨_, rfl, by simp only; omega⟩
    rw [columbariumlaw16_WordsTells.l0, if_pos hj, if_pos h0, if_pos hj, hy, split_le (by omega)]
    simp only [Option.bind_some]
    rw [refSplit_eq y k (by omega), split_le (by omega)]
    simp only [Option.bind_some]
    rw [refSet_eq y k (by omega), hb.1]
    simp only [Option.bind_some]
    rw [texts_same _ k (by omega) (by omega)]
    simp only [Option.bind_some, if_true]
    rw [texts_same _ k (by have := hb.2; omega) (by omega)]
    simp only [Option.bind_some, if_true]
    rw [may_eq _ k (by omega) (by omega)]
    simp only [Option.bind_some]
    rw [refMay_eq _ k (by omega) (by omega)]
    simp only [Option.bind_some, bne_self_eq_false, Bool.false_eq_true, if_false]
    refine tells_inner _ (wordsOf_good _) x1 x3 l l.length j (9001 + 20 * d) (by omega) (fun k' hk' => ?_) 9 0 k (by omega) (by omega) (by omega)
    rw [wrap64_id (by omega) (by omega)]
    exact tells_outer x1 x3 h1 h3 l hl hn d (j + 1) k' (by omega) (by omega) (by omega)

theorem WordsTells : ∀ (a0 : ByteArray) (a1 : Int) (l2 : List Int) (a3 : Int), a0.size ≤ maxLen → (Lit.int .u8 a1).wf = true → (l2.length ≤ maxLen ∧ ∀ a ∈ l2, (Lit.int .i64 a).wf = true) → (Lit.int .i64 a3).wf = true → ∃ k, columbariumlaw16_WordsTells.f k a0 a1 l2 a3 = some true := by
  intro a0 a1 l2 a3 w0 w1 w2 w3
  obtain ⟨K, hK⟩ : ∃ K, K = 10000 := ⟨_, rfl⟩
  refine ⟨K, ?_⟩
  obtain ⟨t, ht, hts⟩ := text_ok l2 (fun x hx => bounds_i64 (w2.2 x hx)) K (by omega)
  have m0 := mn_le a0.size 500 (by omega)
  have c0 := cut_size a0 500 (by omega)
  have hb1 : 0 ≤ a1 ∧ a1 ≤ 255 := by simpa [Lit.wf, IntKind.min, IntKind.max, IntKind.signed, IntKind.bits] using w1
  unfold columbariumlaw16_WordsTells.f
  rw [awake_ok K (by omega)]
  simp only [Option.bind_some]
  rw [if_pos m0.1, if_pos m0.2.1, ht]
  simp only [Option.bind_some]
  obtain ⟨m, hm⟩ : ∃ m, mn (a0.size : Int) 500 = m := ⟨_, rfl⟩
  rw [hm] at m0 c0 ⊢
  rw [if_pos (by omega), great_eq _ K (by omega) (by omega)]
  simp only [Option.bind_some]
  rw [greatOf_size, if_pos (by omega), if_pos (by omega)]
  have h1 : (⟨#[32]⟩ : ByteArray).size = 1 := rfl
  refine tells_outer a1 a3 hb1 (bounds_i64 w3) _ ?_ (by simp) 4 0 K (by omega) (by simp) (by omega)
  intro x hx
  simp only [List.mem_cons, List.not_mem_nil, or_false] at hx
  rcases hx with rfl | rfl | rfl | rfl
  · omega
  · omega
  · rw [ByteArray.size_append]; omega
  · rw [ByteArray.size_append, ByteArray.size_append, greatOf_size]; omega
end Go.Proofs.Ytpmjnggkhjjiaaa.Pure
