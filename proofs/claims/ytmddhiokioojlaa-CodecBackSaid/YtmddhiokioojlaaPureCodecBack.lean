/- CodecBack, in plain words: what was written is taken. -/
import Derived.Test.YtmddhiokioojlaaCodecHelp
import Derived.Test.YtmddhiokioojlaaAx13
import Derived.OpenShut
namespace Go.Proofs.Ytmddhiokioojlaa.Pure
open Go.RowKit Go.Proofs.Ytmddhiokioojlaa.A Go.Proofs.YtmddhiokioojlaaW.PrintWords Go.Proofs.YtmddhiokioojlaaW.PrintLast Go.Proofs.YtmddhiokioojlaaW.PrintMore
set_option linter.unusedVariables false

theorem CodecBack : ∀ (a0 : Int) (l1 : List ByteArray) (a2 : ByteArray) (a3 : ByteArray), (Lit.int .i64 a0).wf = true → (l1.length ≤ maxLen ∧ ∀ a ∈ l1, a.size ≤ maxLen) → a2.size ≤ maxLen → a3.size ≤ maxLen → ∃ k, columbariumlaw10_CodecBack.f k a0 l1 a2 a3 = some true := by
  intro a0 l1 a2 a3 w0 w1 w2 w3
  refine ⟨1100, ?_⟩
  obtain ⟨n, hn, n0, n1⟩ := pick_ok a0 2147483648 (bounds_i64 w0) (by omega)
  obtain ⟨few, hf, f1, f2⟩ := few_ok l1 1100 (by omega)
  have m2 := mn_le a2.size 50 (by omega)
  have m3 := mn_le a3.size 50 (by omega)
  have c2 := cut_size a2 50 (by omega)
  have c3 := cut_size a3 50 (by omega)
  have hc := cat_few f2
  unfold columbariumlaw10_CodecBack.f
  rw [awake_ok 1100 (by omega), hn, hf]
  simp only [Option.bind_some]
  rw [if_pos m2.1, if_pos m2.2.1, if_pos m3.1, if_pos m3.2.1]
  obtain ⟨x, hx⟩ : ∃ x, a2.extract 0 (mn (a2.size : Int) 50).toNat = x := ⟨_, rfl⟩
  obtain ⟨y, hy⟩ : ∃ y, a3.extract 0 (mn (a3.size : Int) 50).toNat = y := ⟨_, rfl⟩
  rw [hx] at c2 ⊢; rw [hy] at c3 ⊢
  rw [number_some n n0 (by omega), text_le (x := y) (by omega)]
  unfold codec_List.f
  rw [listOf_cat (l := few) (by omega) (by omega)]
  simp only [Option.bind_some]
  have z1 : (numB y.size ++ y).size = 4 + y.size := by rw [ByteArray.size_append, numB_size]
  have z2 : (numB few.length ++ cat few).size = 4 + (cat few).size := by rw [ByteArray.size_append, numB_size]
  rw [z1, z2, numB_size]
  rw [if_pos (by omega), if_pos (by omega), if_pos (by omega), if_pos (by omega)]
  have ez : max (mn (a2.size : Int) 50) 0 = (x.size : Int) := by omega
  rw [ez]
  -- the whole text, three ways
  obtain ⟨s, hs⟩ : ∃ s, x ++ numB n ++ (numB y.size ++ y) ++ (numB few.length ++ cat few) ++ y = s := ⟨_, rfl⟩
  have s1 : s = x ++ (numB n ++ ((numB y.size ++ y) ++ (numB few.length ++ cat few) ++ y)) := by rw [← hs]; simp only [ByteArray.append_assoc]
  have s2 : s = (x ++ numB n) ++ (numB y.size ++ (y ++ ((numB few.length ++ cat few) ++ y))) := by rw [← hs]; simp only [ByteArray.append_assoc]
  have s3 : s = (x ++ (numB n ++ (numB y.size ++ y))) ++ (numB few.length ++ (cat few ++ y)) := by rw [← hs]; simp only [ByteArray.append_assoc]
  have sz : s.size = x.size + 4 + (4 + y.size) + (4 + (cat few).size) + y.size := by rw [← hs]; simp only [ByteArray.size_append, numB_size]
  rw [hs]
  have t1 := tNum_put x ((numB y.size ++ y) ++ (numB few.length ++ cat few) ++ y) n n0 (by omega) (by rw [← s1]; omega)
  rw [← s1] at t1
  have t2 := tText_put (x ++ numB n) y ((numB few.length ++ cat few) ++ y) (by rw [← s2]; omega)
  rw [← s2, show (((x ++ numB n).size : Nat) : Int) = (x.size : Int) + 4 by rw [ByteArray.size_append, numB_size]; omega] at t2
  have t3 := tList_put few (x ++ (numB n ++ (numB y.size ++ y))) y (by omega) (by rw [← s3]; omega)
  rw [← s3, show (((x ++ (numB n ++ (numB y.size ++ y))).size : Nat) : Int) = (x.size : Int) + 4 + 4 + y.size by simp only [ByteArray.size_append, numB_size]; omega] at t3
  rw [num_eq _ _ 1100 (by omega), t1]
  simp only [Option.bind_some]
  rw [text_eq _ _ 1100 (by omega), t2]
  simp only [Option.bind_some]
  rw [list_eq _ _ 1100 (by omega), t3]
  simp only [Option.bind_some, if_true]
  rw [texts_same few 1100 (by omega) (by omega)]
  simp only [Option.bind_some, if_true]
  rw [if_pos (by omega), end_eq]
  simp only [Option.bind_some]
  have hr : rgt s ((x.size : Int) + 4 + 4 + y.size + 4 + (cat few).size) = true := by
    unfold rgt; simp only [Bool.and_eq_true, decide_eq_true_eq]; omega
  unfold endOf
  rw [if_pos hr, sz]
  by_cases hy0 : y.size = 0
  · rw [if_neg (by omega)]
    have : y = ByteArray.empty := ByteArray.size_eq_zero_iff.1 hy0
    rw [this, toList_data]; rfl
  · rw [if_pos (by omega)]
    have : ¬ y.toList = [] := by
      intro h
      rw [toList_data] at h
      apply hy0
      show y.data.size = 0
      rw [← Array.length_toList, h]; rfl
    cases hyl : y.toList with
    | nil => exact absurd hyl this
    | cons b r => rfl
end Go.Proofs.Ytmddhiokioojlaa.Pure
