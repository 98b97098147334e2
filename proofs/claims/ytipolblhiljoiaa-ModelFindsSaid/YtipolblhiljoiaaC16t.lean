/- Layer 16: the law's words and texts. -/
import Derived.Test.YtipolblhiljoiaaC16s
import Derived.Test.YtipolblhiljoiaaSyInts
namespace Go.Proofs.Ytipolblhiljoiaa.Sy
open Go Go.RowKit
set_option linter.unusedVariables false
set_option linter.unusedSimpArgs false
set_option maxRecDepth 10000
set_option maxHeartbeats 4000000
theorem pick16_call {c n : Int} (hc : isI64 c) (hn : 0 < n ∧ n ≤ 9223372036854775807) :
    CallOk Try.prog 25 [.val (.int .i64 c), .val (.int .i64 n)] [] (.val (.int .i64 (pickI c n))) [] := by
  refine .of_exec Try.func25 rfl (enters_25) rfl rfl (Nat.le_of_ble_eq_true rfl) (fun n _ => rfl) ?_
  have h0 : n ≠ 0 := by omega
  unfold isI64 at hc
  by_cases h : c < 0
  · have w1 : IntKind.i64.wrap (c + 1) = c + 1 := w64 (by omega) (by omega)
    have w2 : IntKind.i64.wrap (-(c + 1)) = -(c + 1) := w64 (by omega) (by omega)
    have hm : (-(c + 1)).tmod n = pickI c n := by rw [Int.tmod_eq_emod_of_nonneg (by omega)]; simp [pickI, h]
    simp [h, h0, w1, w2, hm]
    exact .plain (by simp) (by simp)
  · have hm : c.tmod n = pickI c n := by rw [Int.tmod_eq_emod_of_nonneg (by omega)]; simp [pickI, h]
    simp [h, h0, hm]
    exact .plain (by simp) (by simp)
theorem pickN {c : Int} {n : Nat} (hn : 0 < n) : ∃ k : Nat, pickI c n = k ∧ k < n := by
  have := pickI_range (c := c) (n := n) (by omega)
  exact ⟨(pickI c n).toNat, by omega, by omega⟩
theorem Word_call {n : Int} (hn : isI64 n) : CallOk Try.prog 15 [.val (.int .i64 n)] [] (.val (.string (wordAt n))) [] := by
  refine .of_exec Try.func15 rfl (enters_15) rfl rfl (Nat.le_of_ble_eq_true rfl) (fun n _ => rfl) ?_
  obtain ⟨k, hk, hlt⟩ := pickN (c := n) (n := 9) (by omega)
  have hk' : pickI n 9 = k := hk
  have hp := pick16_call (c := n) (n := 9) hn (by omega)
  rw [hk'] at hp
  have m1 : 9 ≤ maxLen := by decide
  have hw : wordAt n = nine.getD k ⟨#[]⟩ := by unfold wordAt; rw [hk']; rfl
  have hlt' : (k : Int) < 9 := by omega
  rw [hw]
  simp [m1]
  refine .plain hp (by simp) (by simp) ?_
  have hc : k = 0 ∨ k = 1 ∨ k = 2 ∨ k = 3 ∨ k = 4 ∨ k = 5 ∨ k = 6 ∨ k = 7 ∨ k = 8 := by omega
  rcases hc with rfl | rfl | rfl | rfl | rfl | rfl | rfl | rfl | rfl <;>
  · simp
    exact .plain (by simp) (by simp [nine])
def textW (l : List Int) : ByteArray := strOfNums ((l.take 20).flatMap item)
def text_inv (l : List Int) (m : Nat) (st : St) : Prop := ∃ i : Nat, m = l.length - i ∧ i ≤ l.length ∧ i ≤ 20 ∧
  st = ⟨33, [(4, .val (.int .i64 i)), (3, .val (.string (strOfNums ((l.take i).flatMap item)))), (0, .rd 1 (intsR l))], [], 64⟩
theorem item_bytes (x : Int) : strOfNums (item x) = wordAt x ++ sepAt x := by
  unfold item
  rw [← strOf_append, strOf_bytesW, strOf_bytesW]
theorem item_size (x : Int) : (wordAt x).size ≤ 20 ∧ (sepAt x).size ≤ 2 := ⟨(nine_good _ (wordAt_mem x)).2.1, (five_facts _ (sepAt_mem x)).1⟩
theorem items_size : ∀ (l : List Int), (l.flatMap item).length ≤ 22 * l.length
  | [] => by simp
  | x :: l => by
    have := items_size l
    obtain ⟨h1, h2⟩ := item_size x
    rw [List.flatMap_cons, List.length_append, item, List.length_append, bytesI_length, bytesI_length, List.length_cons]
    omega
theorem Text_call {l : List Int} (hl : l.length ≤ maxLen) (hi : ∀ x ∈ l, isI64 x) : CallOk Try.prog 12 [.rd 1 (intsR l)] [] (.val (.string (textW l))) [] := by
  refine .of_exec Try.func12 rfl (enters_12) rfl rfl (Nat.le_of_ble_eq_true rfl) (fun n _ => rfl) ?_
  unfold maxLen at hl
  simp
  refine WPg.loopW (text_inv l) ⟨l.length, _, ?_, ⟨0, by simp, by simp, by simp, rfl⟩⟩ ?_
  · have e : strOfNums (([] : List Int).flatMap item) = ⟨#[]⟩ := rfl
    rw [List.take_zero, e]
    exact Wk.rn [] rfl (by simp) (by simp) (by simp)
  rintro m st ⟨i, h1, h2, h3, rfl⟩
  by_cases hlt : i < l.length ∧ i < 20
  · have hi1 : (i : Int) < l.length := by omega
    have hi2 : (i : Int) < 20 := by omega
    have hwr : IntKind.i64.wrap ((i : Int) + 1) = ((i + 1 : Nat) : Int) := by rw [w64 (by omega) (by omega)]; omega
    obtain ⟨x, hx⟩ : ∃ x, l[i]'hlt.1 = x := ⟨_, rfl⟩
    have hxi := hi x (by rw [← hx]; exact List.getElem_mem _)
    have hW := Word_call hxi
    have hq : isI64 (x.tdiv 9) := by
      unfold isI64 at *
      by_cases hn : 0 ≤ x
      · rw [Int.tdiv_eq_ediv_of_nonneg hn]; omega
      · have e1 : x.tdiv 9 = -((-x).tdiv 9) := by rw [Int.neg_tdiv]; omega
        rw [e1, Int.tdiv_eq_ediv_of_nonneg (by omega)]; omega
    have hwq : IntKind.i64.wrap (x.tdiv 9) = x.tdiv 9 := by unfold isI64 at hq; exact w64 (by omega) (by omega)
    obtain ⟨k, hk, hkl⟩ := pickN (c := x.tdiv 9) (n := 5) (by omega)
    have hk' : pickI (x.tdiv 9) 5 = k := hk
    have hp := pick16_call (c := x.tdiv 9) (n := 5) hq (by omega)
    rw [hk'] at hp
    have hs : sepAt x = five.getD k ⟨#[]⟩ := by unfold sepAt; rw [hk']; rfl
    have m1 : 5 ≤ maxLen := by decide
    have htk : (l.take (i + 1)).flatMap item = (l.take i).flatMap item ++ item x := by rw [wtake_one hlt.1, hx, List.flatMap_append]; simp
    have hsz := items_size (l.take i)
    obtain ⟨z1, z2⟩ := item_size x
    have hle := List.length_take_le i l
    have y1 : (strOfNums ((l.take i).flatMap item)).size + (wordAt x).size ≤ 9223372036854775807 := by rw [strOf_size]; omega
    have y2 : (strOfNums ((l.take i).flatMap item)).size + (wordAt x).size + (sepAt x).size ≤ 9223372036854775807 := by rw [strOf_size]; omega
    have hend : strOfNums ((l.take (i + 1)).flatMap item) = strOfNums ((l.take i).flatMap item) ++ wordAt x ++ sepAt x := by
      rw [htk, ← strOf_append, item_bytes, ByteArray.append_assoc]
    rw [hs] at y2 hend
    generalize strOfNums ((l.take i).flatMap item) = acc at *
    simp [hlt.1, hlt.2, hi1, hi2, hx]
    refine callT.plain hW (by simp) (by simp) ?_
    simp [y1, m1, hlt.1, hlt.2, hi1, hi2, hx, hwq]
    refine callT.plain hp (by simp) (by simp) ?_
    have hc : k = 0 ∨ k = 1 ∨ k = 2 ∨ k = 3 ∨ k = 4 := by omega
    rcases hc with rfl | rfl | rfl | rfl | rfl <;>
    · simp [five] at hend ⊢
      refine ⟨y2, fun _ => ⟨rfl, l.length - (i + 1), by omega, _, ?_, ⟨i + 1, rfl, by omega, by omega, rfl⟩⟩⟩
      rw [hwr, hend]
      exact Wk.rn [] rfl (by simp) (by simp) (by simp)
  · by_cases hi1 : i < l.length
    · have hi2 : ¬ (i : Int) < 20 := by omega
      have hi1' : (i : Int) < l.length := by omega
      have e : textW l = strOfNums ((l.take i).flatMap item) := by unfold textW; rw [show i = 20 by omega]
      simp [hi1, hi1', hi2]
      exact .plain (by simp) (by simp [e])
    · have hi1' : ¬ (i : Int) < l.length := by omega
      have e : textW l = strOfNums ((l.take i).flatMap item) := by
        unfold textW
        rw [List.take_of_length_le (by omega), List.take_of_length_le (by omega)]
      simp [hi1, hi1']
      exact .plain (by simp) (by simp [e])
end Go.Proofs.Ytipolblhiljoiaa.Sy
