/- CodecOne, in plain words: what is taken, written again, is what stood there. -/
import Derived.Test.YtmddhiokioojlaaCodecHelp
import Derived.Test.YtmddhiokioojlaaAx14
import Derived.OpenShut
namespace Go.Proofs.Ytmddhiokioojlaa.Pure
open Go.RowKit Go.Proofs.Ytmddhiokioojlaa.A Go.Proofs.YtmddhiokioojlaaW.PrintWords Go.Proofs.YtmddhiokioojlaaW.PrintLast Go.Proofs.YtmddhiokioojlaaW.PrintMore
set_option linter.unusedVariables false
set_option linter.unusedSimpArgs false

theorem one_text (x : ByteArray) (hx : x.size ≤ 65536) (r : Option Bool) (k : Nat) (hk : 5 ≤ k) :
    ((codec_TakeText.f k x 0).bind fun bt362 => (if bt362.2.2.2 = 0 then ((codec_Text.f bt362.1).bind fun bt366 => (if bt366.2 = 0 then (if bt362.2.2.1 > (x.size : Int) then (none) else (if 0 ≤ bt362.2.2.1 then (if bt362.2.2.1 ≤ (x.size : Int) then (if bt366.1.toList = (x.extract 0 (bt362.2.2.1 : Int).toNat).toList then r else (none)) else (none)) else (none))) else (none))) else r)) = r := by
  rw [text_eq x 0 k hk]
  simp only [Option.bind_some]
  by_cases h : (tText x 0).2.2.2 = 0
  · obtain ⟨h1, h2, h3, h4⟩ := tText_back h
    rw [if_pos h, text_le (by omega)]
    simp only [Option.bind_some, if_true]
    rw [if_neg (by omega), if_pos (by omega), if_pos h4, h1, Int.toNat_zero, if_pos rfl]
  · rw [if_neg h]
theorem one_loop (l : List ByteArray) (hs : ∀ x ∈ l, x.size ≤ 65536) (hl : l.length ≤ 1000) : ∀ (d : Nat) (i : Int) (k : Nat), 0 ≤ i → (l.length : Int) - i = d → d + 1020 ≤ k → columbariumlaw10_CodecOne.l0 k true l l.length i = some true
  | 0, i, k, h0, hd, hk => by
    obtain ⟨k, rfl⟩ : ∃ m, k = m + 1 := ⟨k - 1, by omega⟩
    unfold columbariumlaw10_CodecOne.l0
    rw [if_neg (by omega)]
  | d + 1, i, k, h0, hd, hk => by
    obtain ⟨k, rfl⟩ : ∃ m, k = m + 1 := ⟨k - 1, by omega⟩
    have hi : i.toNat < l.length := by omega
    have he : rdOf ByteArray.empty l i = l[i.toNat] := by
      unfold rdOf; rw [List.getD_eq_getElem?_getD, List.getElem?_eq_getElem hi]; rfl
    have hx := hs l[i.toNat] (List.getElem_mem hi)
    have ih := one_loop l hs hl d (i + 1) k (by omega) (by omega) (by omega)
    unfold columbariumlaw10_CodecOne.l0
    rw [if_pos (by omega), if_pos h0, if_pos (by omega), he, wrap64_id (n := i + 1) (by omega) (by omega), ih]
    obtain ⟨x, hxx⟩ : ∃ x, l[i.toNat] = x := ⟨_, rfl⟩
    rw [hxx] at hx ⊢
    rw [one_text x hx (some true) k (by omega)]
    rw [list_eq x 0 k (by omega)]
    simp only [Option.bind_some]
    by_cases h : (tList x 0).2.2.2 = 0
    · obtain ⟨h1, h2, h3, h4, _, h6⟩ := tList_back h
      obtain ⟨c1, c2⟩ := tList_cut h
      rw [if_pos h]
      unfold codec_List.f
      rw [listOf_cat h4 (by omega)]
      simp only [Option.bind_some, if_true]
      rw [wrap64_id (n := (tList x 0).2.2.1 - 1) (by omega) (by omega), if_neg (by omega), if_neg (by omega), if_pos (by omega), if_pos (by omega), list_eq _ 0 k (by omega)]
      simp only [Option.bind_some]
      rw [if_pos (by omega), if_pos h3, h1, Int.toNat_zero, if_pos rfl, c1, c2, if_pos rfl, if_pos rfl]
    · rw [if_neg h]

theorem CodecOne : ∀ (a0 : ByteArray) (l1 : List ByteArray) (a2 : Int) (a3 : ByteArray), a0.size ≤ maxLen → (l1.length ≤ maxLen ∧ ∀ a ∈ l1, a.size ≤ maxLen) → (Lit.int .i64 a2).wf = true → a3.size ≤ maxLen → ∃ k, columbariumlaw10_CodecOne.f k a0 l1 a2 a3 = some true := by
  intro a0 l1 a2 a3 w0 w1 w2 w3
  refine ⟨1100, ?_⟩
  obtain ⟨few, hf, f1, f2⟩ := few_ok l1 1100 (by omega)
  have m0 := mn_le a0.size 500 (by omega)
  have m3 := mn_le a3.size 20 (by omega)
  have hc := cat_few f2
  have z2 : (numB few.length ++ cat few).size = 4 + (cat few).size := by rw [ByteArray.size_append, numB_size]
  obtain ⟨n, hn, n0, n1⟩ := pick_ok a2 (4 + (cat few).size + 1) (bounds_i64 w2) (by omega)
  unfold columbariumlaw10_CodecOne.f codec_List.f
  rw [awake_ok 1100 (by omega), hf]
  simp only [Option.bind_some]
  rw [listOf_cat (l := few) (by omega) (by omega)]
  simp only [Option.bind_some, if_true]
  rw [z2, wrap64_id (by omega) (by omega), show (((4 + (cat few).size : Nat) : Int) + 1) = 4 + (cat few).size + 1 by omega, hn]
  simp only [Option.bind_some]
  rw [if_pos m0.1, if_pos m0.2.1, if_pos n0, if_pos (by omega), if_pos m3.1, if_pos m3.2.1, if_pos (by omega), if_pos (by omega)]
  refine one_loop _ ?_ (by simp) 3 0 1100 (by omega) (by simp) (by omega)
  intro x hx
  simp only [List.mem_cons, List.not_mem_nil, or_false] at hx
  rcases hx with rfl | rfl | rfl
  · rw [ByteArray.size_extract]; omega
  · rw [z2]; omega
  · simp only [ByteArray.size_append, ByteArray.size_extract, z2]; omega
end Go.Proofs.Ytmddhiokioojlaa.Pure
