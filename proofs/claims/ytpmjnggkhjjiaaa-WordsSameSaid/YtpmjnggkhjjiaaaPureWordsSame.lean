/- WordsSame, in plain words: a text in great letters has the same words, and so has what its words are. -/
import Derived.Test.YtpmjnggkhjjiaaaWordsHelp
import Derived.Test.YtpmjnggkhjjiaaaAx11
import Derived.OpenShut
namespace Go.Proofs.Ytpmjnggkhjjiaaa.Pure
open Go.RowKit Go.Proofs.Ytpmjnggkhjjiaaa.A Go.Proofs.YtpmjnggkhjjiaaaW.PrintWords Go.Proofs.YtpmjnggkhjjiaaaW.PrintLast Go.Proofs.YtpmjnggkhjjiaaaW.PrintMore
set_option linter.unusedVariables false
set_option linter.unusedSimpArgs false

theorem same_inner (a : List ByteArray) (l : List ByteArray) (n j : Int) (K : Nat) (hK : 5000 ≤ K) (ha : a.length ≤ 600) (hg : ∀ w ∈ a, GoodWord w)
    (hc : ∀ k', K ≤ k' → columbariumlaw16_WordsSame.l0 k' true l n (wrap64 (j + 1)) = some true) :
    ∀ (d : Nat) (i : Int) (acc : ByteArray) (k : Nat), 0 ≤ i → (a.length : Int) - i = d → bytesOf acc = joinB (a.take i.toNat) → acc.size ≤ 22 * i.toNat → K + d + 1 ≤ k →
    columbariumlaw16_WordsSame.l1 k true a 0 a 0 acc i l n j = some true
  | 0, i, acc, k, h0, hd, hb, hs, hk => by
    obtain ⟨k, rfl⟩ : ∃ m, k = m + 1 := ⟨k - 1, by omega⟩
    rw [columbariumlaw16_WordsSame.l1, if_neg (by omega)]
    rw [List.take_of_length_le (by omega)] at hb
    by_cases h2 : (acc.size : Int) ≤ 2000
    · have hw : wordsOf acc = a := by
        rw [wordsOf_eq, hb, foldl_join a [] [] hg]; simp [flush]
      rw [split_le (by omega), hw]
      simp only [Option.bind_some, if_true]
      rw [texts_same a k (by omega) (by omega)]
      simp only [Option.bind_some, if_true]
      rw [if_pos h2, hc k (by omega)]
    · have hsp : words_Split.f acc = some ([], 2) := by unfold words_Split.f; rw [if_pos (by omega)]
      rw [hsp]
      simp only [Option.bind_some, if_true]
      rw [texts_same a k (by omega) (by omega)]
      simp only [Option.bind_some, if_true]
      rw [if_neg h2, hc k (by omega)]
  | d + 1, i, acc, k, h0, hd, hb, hs, hk => by
    obtain ⟨k, rfl⟩ : ∃ m, k = m + 1 := ⟨k - 1, by omega⟩
    have hi : i.toNat < a.length := by omega
    have he : rdOf ByteArray.empty a i = a[i.toNat] := by
      unfold rdOf; rw [List.getD_eq_getElem?_getD, List.getElem?_eq_getElem hi]; rfl
    have hgw := hg _ (List.getElem_mem hi)
    have hgs := hgw.2.1
    rw [columbariumlaw16_WordsSame.l1, if_pos (by omega), if_pos h0, he, may_eq _ k (by omega) (by omega), may_good hgw]
    simp only [Option.bind_some, if_true]
    rw [if_pos (by omega), if_pos (by omega), wrap64_id (n := i + 1) (by omega) (by omega)]
    refine same_inner a l n j K hK ha hg hc d (i + 1) _ k (by omega) (by omega) ?_ ?_ (by omega)
    · rw [show (i + 1).toNat = i.toNat + 1 by omega, List.take_succ_eq_append_getElem hi, bytesOf_append, bytesOf_append, hb]
      have h32 : bytesOf (⟨#[32, 32]⟩ : ByteArray) = [32, 32] := by decide
      rw [h32]
      simp only [joinB, List.flatMap_append, List.flatMap_cons, List.flatMap_nil, List.append_nil, List.append_assoc, List.cons_append, List.nil_append]
    · rw [ByteArray.size_append, ByteArray.size_append]
      have h32 : (⟨#[32, 32]⟩ : ByteArray).size = 2 := rfl
      omega
theorem same_outer (l : List ByteArray) (hl : ∀ x ∈ l, x.size ≤ 500) (hn : l.length ≤ 10) : ∀ (d : Nat) (j : Int) (k : Nat), 0 ≤ j → (l.length : Int) - j = d → 5001 ≤ k → 700 * d + 5001 ≤ k →
    columbariumlaw16_WordsSame.l0 k true l l.length j = some true
  | 0, j, k, h0, hd, hk0, hk => by
    obtain ⟨k, rfl⟩ : ∃ m, k = m + 1 := ⟨k - 1, by omega⟩
    rw [columbariumlaw16_WordsSame.l0, if_neg (by omega)]
  | d + 1, j, k, h0, hd, hk0, hk => by
    obtain ⟨k, rfl⟩ : ∃ m, k = m + 1 := ⟨k - 1, by omega⟩
    have hj : j < (l.length : Int) := by omega
    have hx := hl _ (rdOf_mem (l := l) h0 hj)
    have hwl := wordsOf_length (rdOf ByteArray.empty l j)
    rw [columbariumlaw16_WordsSame.l0, if_pos hj, if_pos h0, if_pos hj, split_le (by omega)]
    simp only [Option.bind_some]
    rw [great_eq _ k (by omega) (by omega)]
    simp only [Option.bind_some]
    rw [split_le (by rw [greatOf_size]; omega), words_great]
    simp only [Option.bind_some]
    obtain ⟨K, hK⟩ : ∃ K, K = 700 * d + 5001 := ⟨_, rfl⟩
    refine same_inner _ l l.length j K (by omega) (by omega) (wordsOf_good _) (fun k' hk' => ?_) (wordsOf (rdOf ByteArray.empty l j)).length 0 _ k (by omega) (by omega) rfl (by simp [ByteArray.size]) (by omega)
    rw [wrap64_id (by omega) (by omega)]
    exact same_outer l hl hn d (j + 1) k' (by omega) (by omega) (by omega) (by omega)

theorem WordsSame : ∀ (a0 : ByteArray) (l1 : List Int), a0.size ≤ maxLen → (l1.length ≤ maxLen ∧ ∀ a ∈ l1, (Lit.int .i64 a).wf = true) → ∃ k, columbariumlaw16_WordsSame.f k a0 l1 = some true := by
  intro a0 l1 w0 w1
  obtain ⟨K, hK⟩ : ∃ K, K = 7000 := ⟨_, rfl⟩
  refine ⟨K, ?_⟩
  obtain ⟨t, ht, hts⟩ := text_ok l1 (fun x hx => bounds_i64 (w1.2 x hx)) K (by omega)
  have m0 := mn_le a0.size 500 (by omega)
  have c0 := cut_size a0 500 (by omega)
  unfold columbariumlaw16_WordsSame.f
  rw [awake_ok K (by omega)]
  simp only [Option.bind_some]
  rw [if_pos m0.1, if_pos m0.2.1, ht]
  simp only [Option.bind_some]
  refine same_outer _ ?_ (by simp) 2 0 K (by omega) (by simp) (by omega) (by omega)
  intro x hx
  simp only [List.mem_cons, List.not_mem_nil, or_false] at hx
  rcases hx with rfl | rfl
  · omega
  · omega
end Go.Proofs.Ytpmjnggkhjjiaaa.Pure
