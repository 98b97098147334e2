/- The codec's plain laws: what is written is taken; what is taken, written again, is what stood there. -/
import Derived.Test.YtmddhiokioojlaaCodecRef
namespace Go.Proofs.Ytmddhiokioojlaa.A
open Go.RowKit Go.Proofs.YtmddhiokioojlaaW.PrintWords Go.Proofs.YtmddhiokioojlaaW.PrintLast Go.Proofs.YtmddhiokioojlaaW.PrintMore
set_option linter.unusedSimpArgs false
set_option linter.unusedVariables false

theorem ba_ext {a b : ByteArray} (h : a.data.toList = b.data.toList) : a = b := by
  cases a; cases b; simp only [ByteArray.mk.injEq]; exact Array.toList_inj.1 h
theorem bt_list (s : ByteArray) (i : Nat) : bt s i = ((s.data.toList.getD i 0).toNat : Int) := by
  unfold bt
  rw [Int.toNat_natCast]
  split
  · rename_i h
    rw [List.getD_eq_getElem?_getD, List.getElem?_eq_getElem (by simpa using h)]
    rfl
  · rename_i h
    rw [List.getD_eq_getElem?_getD, List.getElem?_eq_none (by simpa using h)]
    rfl
theorem bt_append_right (x y : ByteArray) (j : Nat) : bt (x ++ y) ((x.size : Int) + (j : Int)) = bt y (j : Int) := by
  have : (x.size : Int) + (j : Int) = ((x.size + j : Nat) : Int) := by omega
  rw [this, bt_list, bt_list, ByteArray.data_append, Array.toList_append]
  congr 2
  rw [List.getD_eq_getElem?_getD, List.getD_eq_getElem?_getD, List.getElem?_append_right (by simp)]
  congr 2
  simp
theorem bt_append_left (x y : ByteArray) (j : Nat) (h : j < x.size) : bt (x ++ y) (j : Int) = bt x (j : Int) := by
  rw [bt_list, bt_list, ByteArray.data_append, Array.toList_append]
  congr 2
  rw [List.getD_eq_getElem?_getD, List.getD_eq_getElem?_getD, List.getElem?_append_left (by simpa using h)]

theorem be4_append_right (x y : ByteArray) : be4 (x ++ y) x.size = be4 y 0 := by
  have h0 := bt_append_right x y 0; have h1 := bt_append_right x y 1; have h2 := bt_append_right x y 2; have h3 := bt_append_right x y 3
  unfold be4
  simp only [Int.natCast_zero, Int.add_zero, Int.natCast_one, Int.cast_ofNat_Int, Int.zero_add] at *
  rw [h0, h1, h2, h3]
theorem be4_append_left (x y : ByteArray) (h : x.size = 4) : be4 (x ++ y) 0 = be4 x 0 := by
  have h0 := bt_append_left x y 0 (by omega); have h1 := bt_append_left x y 1 (by omega); have h2 := bt_append_left x y 2 (by omega); have h3 := bt_append_left x y 3 (by omega)
  unfold be4
  simp only [Int.natCast_zero, Int.natCast_one, Int.cast_ofNat_Int, Int.zero_add] at *
  rw [h0, h1, h2, h3]
theorem be4_numB (n : Int) (h0 : 0 ≤ n) (h1 : n ≤ 4294967295) : be4 (numB n) 0 = n := by
  have e : ∀ a b c d : Int, 0 ≤ a → a < 256 → 0 ≤ b → b < 256 → 0 ≤ c → c < 256 → 0 ≤ d → d < 256 → be4 (strOfNums [a, b, c, d]) 0 = ((a * 256 + b) * 256 + c) * 256 + d := by
    intro a b c d ha ha' hb hb' hc hc' hd hd'
    unfold be4
    have k0 := bt_list (strOfNums [a, b, c, d]) 0; have k1 := bt_list (strOfNums [a, b, c, d]) 1; have k2 := bt_list (strOfNums [a, b, c, d]) 2; have k3 := bt_list (strOfNums [a, b, c, d]) 3
    simp only [Int.natCast_zero, Int.natCast_one, Int.cast_ofNat_Int, Int.zero_add] at *
    rw [k0, k1, k2, k3]
    simp [strOfNums]
    omega
  unfold numB
  rw [e _ _ _ _ (by omega) (by omega) (by omega) (by omega) (by omega) (by omega) (by omega) (by omega)]
  omega
end Go.Proofs.Ytmddhiokioojlaa.A
