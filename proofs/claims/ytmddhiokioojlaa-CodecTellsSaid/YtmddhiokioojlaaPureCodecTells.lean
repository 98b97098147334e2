/- CodecTells, in plain words: the document's codec answers the same. -/
import Derived.Test.YtmddhiokioojlaaCodecHelp
import Derived.Test.YtmddhiokioojlaaAx12
import Derived.OpenShut
namespace Go.Proofs.Ytmddhiokioojlaa.Pure
open Go.RowKit Go.Proofs.Ytmddhiokioojlaa.A Go.Proofs.YtmddhiokioojlaaW.PrintWords Go.Proofs.YtmddhiokioojlaaW.PrintLast Go.Proofs.YtmddhiokioojlaaW.PrintMore
set_option linter.unusedVariables false
set_option linter.unusedSimpArgs false

theorem tells_cursors {α : Type} (l : List (S24)) (hl : l.length ≤ 1000) : ∀ (d : Nat) (i : Int) (k : Nat), 0 ≤ i → (l.length : Int) - i = d → d + 1020 ≤ k → columbariumlaw10_CodecTells.l1 k true l l.length i = some true
  | 0, i, k, h0, hd, hk => by
    obtain ⟨k, rfl⟩ : ∃ m, k = m + 1 := ⟨k - 1, by omega⟩
    unfold columbariumlaw10_CodecTells.l1
    rw [if_neg (by omega)]
  | d + 1, i, k, h0, hd, hk => by
    obtain ⟨k, rfl⟩ : ∃ m, k = m + 1 := ⟨k - 1, by omega⟩
    have ih := tells_cursors (α := α) l hl d (i + 1) k (by omega) (by omega) (by omega)
    unfold columbariumlaw10_CodecTells.l1
    rw [if_pos (by omega), if_pos h0, if_pos (by omega), wrap64_id (n := i + 1) (by omega) (by omega), ih]
    obtain ⟨c, hc⟩ : ∃ c, rd_T24 l i = c := ⟨_, rfl⟩
    rw [hc]
    rw [num_eq _ _ k (by omega), ref_num_eq _ _ k (by omega), end_eq, ref_end_eq, text_eq _ _ k (by omega), ref_text_eq _ _ k (by omega), list_eq _ _ k (by omega), ref_list_eq _ _ k (by omega)]
    simp only [Option.bind_some, texts_same _ k (tList_length _ _) (by omega), beq_self_eq_true, Bool.not_true, Bool.or_self, Bool.false_eq_true, if_true, if_false]

theorem tells_numbers (l1 : List ByteArray) (a3 : Int) (a4 : ByteArray) (b : ByteArray) (c : Int) (w3 : -9223372036854775808 ≤ a3 ∧ a3 ≤ 9223372036854775807) (w4 : a4.size ≤ maxLen) (xs : List Int) (hl : xs.length ≤ 1000) : ∀ (d : Nat) (i : Int) (k : Nat), 0 ≤ i → (xs.length : Int) - i = d → d + 1100 ≤ k → columbariumlaw10_CodecTells.l0 k l1 a3 a4 true xs xs.length i b c = some true
  | 0, i, k, h0, hd, hk => by
    obtain ⟨k, rfl⟩ : ∃ m, k = m + 1 := ⟨k - 1, by omega⟩
    obtain ⟨few, hf, f1, f2⟩ := few_ok l1 k (by omega)
    have m4 := mn_le a4.size 60 (by omega)
    have c4 := cut_size a4 60 (by omega)
    have hc := cat_few f2
    have z2 : (numB few.length ++ cat few).size = 4 + (cat few).size := by rw [ByteArray.size_append, numB_size]
    obtain ⟨n, hn, n0, n1⟩ := pick_ok a3 (4 + (cat few).size + 1) w3 (by omega)
    unfold columbariumlaw10_CodecTells.l0
    rw [if_neg (by omega), hf]
    simp only [Option.bind_some]
    rw [ref_list_w_eq few k (by omega)]
    unfold codec_List.f
    rw [listOf_cat (l := few) (by omega) (by omega)]
    simp only [Option.bind_some, if_true]
    rw [if_pos m4.1, if_pos m4.2.1, ref_text_w, text_some]
    simp only [Option.bind_some, if_true]
    by_cases hb : (b.size : Int) > 500
    · rw [if_pos hb]; simp
    · rw [if_neg hb, z2, wrap64_id (by omega) (by omega), show (((4 + (cat few).size : Nat) : Int) + 1) = 4 + (cat few).size + 1 by omega, hn]
      simp only [Option.bind_some]
      rw [if_pos n0, if_pos (by omega), if_pos (by omega), if_pos (by omega), if_pos (by omega)]
      exact tells_cursors (α := Unit) _ (by simp) 7 0 k (by omega) (by simp) (by omega)
  | d + 1, i, k, h0, hd, hk => by
    obtain ⟨k, rfl⟩ : ∃ m, k = m + 1 := ⟨k - 1, by omega⟩
    have ih := tells_numbers l1 a3 a4 b c w3 w4 xs hl d (i + 1) k (by omega) (by omega) (by omega)
    unfold columbariumlaw10_CodecTells.l0
    rw [if_pos (by omega), if_pos h0, if_pos (by omega), wrap64_id (n := i + 1) (by omega) (by omega), ih, ref_number_eq]
    obtain ⟨r, hr⟩ := number_ok (rd xs i)
    rw [hr]
    simp only [Option.bind_some, if_true]

theorem CodecTells : ∀ (a0 : Int) (l1 : List ByteArray) (a2_0 : ByteArray) (a2_1 : Int) (a3 : Int) (a4 : ByteArray), (Lit.int .i64 a0).wf = true → (l1.length ≤ maxLen ∧ ∀ a ∈ l1, a.size ≤ maxLen) → a2_0.size ≤ maxLen → (Lit.int .i64 a2_1).wf = true → (Lit.int .i64 a3).wf = true → a4.size ≤ maxLen → ∃ k, columbariumlaw10_CodecTells.f k a0 l1 a2_0 a2_1 a3 a4 = some true := by
  intro a0 l1 a2_0 a2_1 a3 a4 w0 w1 w2 w21 w3 w4
  refine ⟨1200, ?_⟩
  obtain ⟨n, hn, n0, n1⟩ := pick_ok a0 2147483648 (bounds_i64 w0) (by omega)
  unfold columbariumlaw10_CodecTells.f
  rw [awake_ok 1200 (by omega), hn]
  simp only [Option.bind_some]
  exact tells_numbers l1 a3 a4 a2_0 a2_1 (bounds_i64 w3) w4 [a0, n] (by simp) 2 0 1200 (by omega) (by simp) (by omega)
end Go.Proofs.Ytmddhiokioojlaa.Pure
