/- Layer 10: many zero bytes, as plain data. -/
import Derived.Test.YtidaedchmjlbfaaGreatC10p
namespace Go.Proofs.YtidaedchmjlbfaaGreat.Sy
open Go Go.RowKit
set_option linter.unusedVariables false
set_option linter.unusedSimpArgs false
theorem btv_nums (xs : List Int) (i : Int) (h : ∀ x ∈ xs, 0 ≤ x ∧ x < 256) : btv (strOfNums xs) i = xs.getD i.toNat 0 := by
  unfold btv
  rw [show (strOfNums xs).data.toList = xs.map fun n => UInt8.ofNat n.toNat from rfl]
  rw [List.getD_eq_getElem?_getD, List.getD_eq_getElem?_getD, List.getElem?_map]
  cases c : xs[i.toNat]? with
  | none => rfl
  | some x =>
    obtain ⟨h0, h1⟩ := h x (List.mem_of_getElem? c)
    simp only [Option.map_some, Option.getD_some, UInt8.toNat_ofNat']
    omega
theorem strOfNums_append (xs ys : List Int) : strOfNums xs ++ strOfNums ys = strOfNums (xs ++ ys) := by
  apply ByteArray.ext
  apply Array.toList_inj.1
  rw [ByteArray.data_append, Array.toList_append]
  simp only [show ∀ zs, (strOfNums zs).data.toList = zs.map fun n => UInt8.ofNat n.toNat from fun _ => rfl, List.map_append]
theorem btv_zero (k : Nat) (i : Int) : btv (strOfNums (List.replicate k 0)) i = 0 := by
  rw [btv_nums _ _ fun x hx => by rw [List.eq_of_mem_replicate hx]; omega, List.getD_eq_getElem?_getD, List.getElem?_replicate]
  split <;> rfl
theorem tNum_zero (k : Nat) (hk : 4 ≤ k) : (tNum (strOfNums (List.replicate k 0)) 0).2.2 = if k ≤ 65536 then 0 else 1 := by
  have hs : (strOfNums (List.replicate k 0)).size = k := by simp [strOfNums_size]
  have hb : b4 (strOfNums (List.replicate k 0)) 0 = 0 := by unfold b4; simp only [btv_zero]; rfl
  unfold tNum
  by_cases c : k ≤ 65536
  · rw [if_pos (okC_iff.2 (by rw [hs]; omega)), if_neg (by rw [hs]; omega), hb, if_neg (by omega), if_pos c]
  · rw [if_neg (fun e => by have := okC_iff.1 e; rw [hs] at this; omega), if_neg c]
/-- A list's number, and so many numbers none. -/
def hdr (p q : Int) (m : Nat) : ByteArray := strOfNums [0, 0, p, q] ++ strOfNums (List.replicate m 0)
theorem hdr_size (p q : Int) (m : Nat) : (hdr p q m).size = 4 + m := by simp [hdr, strOfNums_size]
theorem hdr_nums (p q : Int) (m : Nat) : hdr p q m = strOfNums ([0, 0, p, q] ++ List.replicate m 0) := strOfNums_append _ _
theorem hdr_btv {p q : Int} (m : Nat) (hp : 0 ≤ p ∧ p < 256) (hq : 0 ≤ q ∧ q < 256) (i : Int) : btv (hdr p q m) i = ([0, 0, p, q] ++ List.replicate m 0).getD i.toNat 0 := by
  rw [hdr_nums, btv_nums]
  intro x hx
  rcases List.mem_append.1 hx with h | h
  · simp only [List.mem_cons, List.not_mem_nil, or_false] at h
    rcases h with rfl | rfl | rfl | rfl <;> omega
  · rw [List.eq_of_mem_replicate h]; omega
theorem hdr_far {p q : Int} {m : Nat} (hp : 0 ≤ p ∧ p < 256) (hq : 0 ≤ q ∧ q < 256) {i : Int} (hi : 4 ≤ i) : btv (hdr p q m) i = 0 := by
  rw [hdr_btv m hp hq, List.getD_eq_getElem?_getD, List.getElem?_append_right (by simp; omega), List.getElem?_replicate]
  split <;> rfl
theorem hdr_b4 {p q : Int} {m : Nat} (hp : 0 ≤ p ∧ p < 256) (hq : 0 ≤ q ∧ q < 256) {a : Int} (ha : 4 ≤ a) : b4 (hdr p q m) a = 0 := by
  unfold b4
  rw [hdr_far hp hq ha, hdr_far hp hq (by omega), hdr_far hp hq (by omega), hdr_far hp hq (by omega)]
  rfl
theorem hdr_b0 {p q : Int} {m : Nat} (hp : 0 ≤ p ∧ p < 256) (hq : 0 ≤ q ∧ q < 256) : b4 (hdr p q m) 0 = p * 256 + q := by
  unfold b4
  rw [hdr_btv m hp hq, hdr_btv m hp hq, hdr_btv m hp hq, hdr_btv m hp hq]
  simp
theorem hdr_texts {p q : Int} {m : Nat} (hp : 0 ≤ p ∧ p < 256) (hq : 0 ≤ q ∧ q < 256) (hm : m ≤ 65532) : ∀ (n : Nat) (a : Int) (out : List ByteArray), 4 ≤ a → a + 4 * n ≤ 4 + m → (tTexts (hdr p q m) n a out).2.2 = 0
  | 0, a, out, _, _ => rfl
  | n + 1, a, out, ha, h => by
    have ho : okC (hdr p q m) a = true := okC_iff.2 (by rw [hdr_size]; omega)
    have h1 : tNum (hdr p q m) a = (0, a + 4, 0) := by
      unfold tNum
      rw [if_pos ho, if_neg (by rw [hdr_size]; omega), hdr_b4 hp hq ha, if_neg (by omega)]
    have h2 : partS (hdr p q m) (a + 4) 0 = ((hdr p q m).extract (a + 4).toNat (a + 4 + 0).toNat, a + 4 + 0, 0) := by
      unfold partS
      rw [if_pos (okC_iff.2 (by rw [hdr_size]; omega)), if_neg (by rw [hdr_size]; omega)]
    have h3 : (tText (hdr p q m) a).2.2 = 0 ∧ (tText (hdr p q m) a).2.1 = a + 4 := by
      unfold tText
      rw [h1, hdr_b4 hp hq ha, h2]
      simp
    unfold tTexts
    rw [if_pos h3.1, h3.2]
    exact hdr_texts hp hq hm n _ _ (by omega) (by omega)
theorem hdr_list {n : Nat} (h0 : n ≤ 1002) : (tList (hdr ((n : Int) / 256) ((n : Int) % 256) (4 * n)) 0).2.2 = if n ≤ 1000 then 0 else 13 := by
  have hp : 0 ≤ (n : Int) / 256 ∧ (n : Int) / 256 < 256 := by omega
  have hq : 0 ≤ (n : Int) % 256 ∧ (n : Int) % 256 < 256 := by omega
  have hb : b4 (hdr ((n : Int) / 256) ((n : Int) % 256) (4 * n)) 0 = n := by rw [hdr_b0 hp hq]; omega
  have ht : tNum (hdr ((n : Int) / 256) ((n : Int) % 256) (4 * n)) 0 = ((n : Int), 0 + 4, 0) := by
    unfold tNum
    rw [if_pos (okC_iff.2 (by rw [hdr_size]; omega)), if_neg (by rw [hdr_size]; omega), hb, if_neg (by omega)]
  unfold tList
  rw [ht, hb]
  by_cases c : n ≤ 1000
  · rw [if_pos rfl, if_neg (by omega), if_pos (hdr_texts hp hq (by omega) _ _ _ (by omega) (by omega)), if_pos c]
    exact hdr_texts hp hq (by omega) _ _ _ (by omega) (by omega)
  · rw [if_pos rfl, if_pos (by omega), if_neg c]
theorem text_zero (k : Nat) : (∃ b, textE (strOfNums (List.replicate k 0)) = (b, 0) ∧ k ≤ 65536 ∧ b.size = k + 4) ∨ (textE (strOfNums (List.replicate k 0)) = (⟨#[]⟩, 2) ∧ 65536 < k) := by
  unfold textE
  have hs : (strOfNums (List.replicate k 0)).size = k := by simp [strOfNums_size]
  rw [hs]
  by_cases c : 65536 < k
  · rw [if_pos c]; exact .inr ⟨rfl, c⟩
  · rw [if_neg c]; exact .inl ⟨_, rfl, by omega, by rw [ByteArray.size_append, numS_size, hs]; omega⟩
theorem numsOf_zero : ∀ n : Nat, numsOf (List.replicate n [PV.val (.int .u8 0)]) = some (List.replicate n 0)
  | 0 => rfl
  | n + 1 => by
    rw [List.replicate_succ, List.replicate_succ]
    simp [numsOf, numsOf_zero n]
end Go.Proofs.YtidaedchmjlbfaaGreat.Sy
