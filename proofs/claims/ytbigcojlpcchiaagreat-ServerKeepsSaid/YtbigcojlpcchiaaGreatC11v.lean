/- Layer 11: what was written is read, in plain words. -/
import Derived.Test.YtbigcojlpcchiaaGreatC11f
import Derived.Test.YtbigcojlpcchiaaGreatM10
namespace Go.Proofs.YtbigcojlpcchiaaGreat.Sy
open Go Go.RowKit
set_option linter.unusedVariables false
set_option linter.unusedSimpArgs false
set_option maxRecDepth 10000
theorem data_app (a b : ByteArray) : (a ++ b).data.toList = a.data.toList ++ b.data.toList := by rw [ByteArray.data_append, Array.toList_append]
theorem data_len (a : ByteArray) : a.data.toList.length = a.size := by rw [Array.length_toList]; rfl
theorem btv_right (p t : ByteArray) (j : Nat) : btv (p ++ t) ((p.size + j : Nat) : Int) = btv t (j : Int) := by
  unfold btv
  rw [data_app, Int.toNat_natCast, Int.toNat_natCast, List.getD_eq_getElem?_getD, List.getD_eq_getElem?_getD, List.getElem?_append_right (by rw [data_len]; omega), data_len, Nat.add_sub_cancel_left]
theorem btv_left (p t : ByteArray) (j : Nat) (h : j < p.size) : btv (p ++ t) (j : Int) = btv p (j : Int) := by
  unfold btv
  rw [data_app, Int.toNat_natCast, List.getD_eq_getElem?_getD, List.getD_eq_getElem?_getD, List.getElem?_append_left (by rw [data_len]; exact h)]
theorem ext_mid (p x q : ByteArray) : (p ++ (x ++ q)).extract p.size (p.size + x.size) = x := by
  apply ByteArray.ext
  apply Array.toList_inj.1
  rw [ByteArray.data_extract, Array.toList_extract, List.extract_eq_take_drop, data_app, data_app, Nat.add_sub_cancel_left]
  rw [← data_len p, List.drop_left, ← data_len x, List.take_left]
theorem numS_btv {n : Int} (h0 : 0 ≤ n) (h : n ≤ 2147483647) : btv (numS n) (0 : Nat) = n / 16777216 ∧ btv (numS n) (1 : Nat) = n / 65536 % 256 ∧ btv (numS n) (2 : Nat) = n / 256 % 256 ∧ btv (numS n) (3 : Nat) = n % 256 := by
  have hr : ∀ x ∈ [n / 16777216, n / 65536 % 256, n / 256 % 256, n % 256], 0 ≤ x ∧ x < 256 := by
    intro x hx
    simp only [List.mem_cons, List.not_mem_nil, or_false] at hx
    rcases hx with rfl | rfl | rfl | rfl <;> omega
  unfold numS
  rw [btv_nums _ _ hr, btv_nums _ _ hr, btv_nums _ _ hr, btv_nums _ _ hr]
  exact ⟨rfl, rfl, rfl, rfl⟩
theorem b4_mid (p q : ByteArray) {n : Int} (h0 : 0 ≤ n) (h : n ≤ 2147483647) : b4 (p ++ (numS n ++ q)) (p.size : Int) = n := by
  have hb : ∀ j : Nat, j < 4 → btv (p ++ (numS n ++ q)) ((p.size : Int) + j) = btv (numS n) (j : Int) := fun j hj => by
    rw [show (p.size : Int) + j = ((p.size + j : Nat) : Int) from rfl, btv_right, btv_left _ _ _ (by rw [numS_size]; exact hj)]
  have k0 := hb 0 (by omega)
  have k1 := hb 1 (by omega)
  have k2 := hb 2 (by omega)
  have k3 := hb 3 (by omega)
  obtain ⟨g0, g1, g2, g3⟩ := numS_btv h0 h
  unfold b4
  have e0 : btv (p ++ (numS n ++ q)) (p.size : Int) = n / 16777216 := by rw [← g0, ← k0]; congr 1
  have e1 : btv (p ++ (numS n ++ q)) ((p.size : Int) + 1) = n / 65536 % 256 := by rw [← g1, ← k1]; rfl
  have e2 : btv (p ++ (numS n ++ q)) ((p.size : Int) + 2) = n / 256 % 256 := by rw [← g2, ← k2]; rfl
  have e3 : btv (p ++ (numS n ++ q)) ((p.size : Int) + 3) = n % 256 := by rw [← g3, ← k3]; rfl
  rw [e0, e1, e2, e3]
  omega
theorem tNum_mid {s p q : ByteArray} {n : Int} (hs : s = p ++ (numS n ++ q)) (hm : s.size ≤ 65536) (h0 : 0 ≤ n) (h : n ≤ 2147483647) : tNum s (p.size : Int) = (n, (p.size : Int) + 4, 0) := by
  have hz : s.size = p.size + (4 + q.size) := by rw [hs, ByteArray.size_append, ByteArray.size_append, numS_size]
  unfold tNum
  rw [if_pos (okC_iff.2 (by omega)), if_neg (by omega)]
  have hb := b4_mid p q h0 h
  rw [← hs] at hb
  rw [hb, if_neg (by omega)]
theorem tText_mid {s p x q : ByteArray} (hs : s = p ++ (numS x.size ++ (x ++ q))) (hm : s.size ≤ 65536) : tText s (p.size : Int) = (x, (p.size : Int) + 4 + x.size, 0) := by
  have hz : s.size = p.size + (4 + (x.size + q.size)) := by rw [hs, ByteArray.size_append, ByteArray.size_append, ByteArray.size_append, numS_size]
  have hn := tNum_mid hs hm (by omega) (by omega)
  have hb := b4_mid p (x ++ q) (n := (x.size : Int)) (by omega) (by omega)
  rw [← hs] at hb
  have he : s.extract ((p.size : Int) + 4).toNat ((p.size : Int) + 4 + x.size).toNat = x := by
    have h1 : ((p.size : Int) + 4).toNat = (p ++ numS x.size).size := by rw [ByteArray.size_append, numS_size]; omega
    have h2 : ((p.size : Int) + 4 + x.size).toNat = (p ++ numS x.size).size + x.size := by rw [ByteArray.size_append, numS_size]; omega
    rw [h1, h2, hs, ← ByteArray.append_assoc]
    exact ext_mid _ _ _
  have hp : partS s ((p.size : Int) + 4) x.size = (x, (p.size : Int) + 4 + x.size, 0) := by
    unfold partS
    rw [if_pos (okC_iff.2 (by omega)), if_neg (by omega), he]
  unfold tText
  rw [hn, if_pos rfl, hb, hp, if_pos rfl]
/-- The bytes of texts behind one another. -/
def textsB : List ByteArray → ByteArray
  | [] => ⟨#[]⟩
  | x :: r => numS x.size ++ (x ++ textsB r)
theorem app_nilL (s : ByteArray) : (⟨#[]⟩ : ByteArray) ++ s = s := by
  apply ByteArray.ext
  rw [ByteArray.data_append]
  exact Array.empty_append
theorem tTexts_mid {s q : ByteArray} (hm : s.size ≤ 65536) : ∀ (l : List ByteArray) (p : ByteArray) (out : List ByteArray), s = p ++ (textsB l ++ q) → tTexts s l.length (p.size : Int) out = (out ++ l, (p.size : Int) + (textsB l).size, 0)
  | [], p, out, hs => by simp [tTexts, textsB, show (⟨#[]⟩ : ByteArray).size = 0 from rfl]
  | x :: r, p, out, hs => by
    have hs2 : s = p ++ (numS x.size ++ (x ++ (textsB r ++ q))) := by rw [hs, textsB]; simp only [ByteArray.append_assoc]
    have ht := tText_mid hs2 hm
    rw [List.length_cons, tTexts, ht, if_pos rfl]
    have hp : (p.size : Int) + 4 + x.size = ((p ++ (numS x.size ++ x)).size : Int) := by rw [ByteArray.size_append, ByteArray.size_append, numS_size]; omega
    have ih := tTexts_mid (q := q) hm r (p ++ (numS x.size ++ x)) (out ++ [x]) (by rw [hs2]; simp only [ByteArray.append_assoc])
    simp only
    rw [hp, ih]
    have hz : ((p ++ (numS x.size ++ x)).size : Int) + (textsB r).size = (p.size : Int) + (textsB (x :: r)).size := by
      rw [textsB, ByteArray.size_append, ByteArray.size_append, ByteArray.size_append, ByteArray.size_append, numS_size]; omega
    rw [hz]
    simp
theorem tList_mid {s p q : ByteArray} {l : List ByteArray} (hs : s = p ++ (numS l.length ++ (textsB l ++ q))) (hm : s.size ≤ 65536) (hl : l.length ≤ 1000) : tList s (p.size : Int) = (l, (p.size : Int) + 4 + (textsB l).size, 0) := by
  have hn := tNum_mid hs hm (by omega) (by omega)
  have hb := b4_mid p (textsB l ++ q) (n := (l.length : Int)) (by omega) (by omega)
  rw [← hs] at hb
  have ht := tTexts_mid (q := q) hm l (p ++ numS l.length) [] (by rw [hs]; simp only [ByteArray.append_assoc])
  rw [ByteArray.size_append, numS_size] at ht
  have hc : ((p.size + 4 : Nat) : Int) = (p.size : Int) + 4 := by omega
  rw [hc, List.nil_append] at ht
  unfold tList
  rw [hn, if_pos rfl, hb, if_neg (by omega), Int.toNat_natCast, ht, if_pos rfl]
theorem listR_ok : ∀ (l : List ByteArray) (acc : ByteArray), acc.size + (textsB l).size ≤ 65536 → listR l acc = some (acc ++ textsB l)
  | [], acc, h => by rw [textsB, app_empty]; rfl
  | x :: r, acc, h => by
    rw [textsB, ByteArray.size_append, ByteArray.size_append, numS_size] at h
    rw [listR_cons, if_neg (by omega), listR_ok r _ (by rw [ByteArray.size_append, ByteArray.size_append, numS_size]; omega), textsB]
    simp only [ByteArray.append_assoc]
theorem listE_ok {l : List ByteArray} (hl : l.length ≤ 1000) (h : 4 + (textsB l).size ≤ 65536) : listE l = (numS l.length ++ textsB l, 0) := by
  unfold listE
  rw [if_neg (by omega), listR_ok _ _ (by rw [numS_size]; exact h)]
theorem textsB_size {n : Nat} : ∀ {l : List ByteArray}, (∀ x ∈ l, x.size = n) → (textsB l).size = (4 + n) * l.length
  | [], _ => by simp [textsB]; rfl
  | x :: r, h => by
    rw [textsB, ByteArray.size_append, ByteArray.size_append, numS_size, h x (List.mem_cons_self ..), textsB_size (n := n) fun y hy => h y (List.mem_cons_of_mem _ hy), List.length_cons, Nat.mul_succ]
    omega
theorem catB3 (a b c : ByteArray) : catB [a, b, c] = a ++ (b ++ c) := by rw [catB_cons, catB_cons, catB_cons, catB, app_empty]
/-- What is written of a request that may be. -/
theorem encQ_ok {k : Int} {ls cs : List ByteArray} (h : rightQ k ls cs = true) : encQ k ls cs = (numS k ++ (numS ls.length ++ (textsB ls ++ (numS cs.length ++ textsB cs))), 0) := by
  obtain ⟨f1, f2, f3, f4, f5, f6, f7, _⟩ := right_facts h
  have z1 := textsB_size f3
  have z2 := textsB_size f4
  have en : (numE k).1 = numS k := by unfold numE; rw [if_neg (by omega)]
  unfold encQ
  rw [if_pos h, en, listE_ok (by omega) (by omega), listE_ok (by omega) (by omega), catB3]
  simp only [ByteArray.append_assoc]
theorem encQ_size {k : Int} {ls cs : List ByteArray} (h : rightQ k ls cs = true) : (encQ k ls cs).1.size = 12 + 20 * ls.length + 44 * cs.length := by
  obtain ⟨f1, f2, f3, f4, f5, f6, f7, _⟩ := right_facts h
  have z1 := textsB_size f3
  have z2 := textsB_size f4
  rw [encQ_ok h]
  simp only [ByteArray.size_append, numS_size, z1, z2]
  omega
theorem endC_end {s : ByteArray} (hm : s.size ≤ 65536) : endC s (s.size : Int) = 0 := by
  unfold endC
  rw [if_pos (okC_iff.2 (by omega)), if_neg (by omega)]
/-- What was written is read. -/
theorem dec_enc {k : Int} {ls cs : List ByteArray} (h : rightQ k ls cs = true) : decQ (encQ k ls cs).1 = (k, ls, cs, 0) := by
  obtain ⟨f1, f2, f3, f4, f5, f6, f7, _⟩ := right_facts h
  have hz := encQ_size h
  have he := encQ_ok h
  obtain ⟨s, hs⟩ : ∃ s, (encQ k ls cs).1 = s := ⟨_, rfl⟩
  have hs1 : s = numS k ++ (numS ls.length ++ (textsB ls ++ (numS cs.length ++ textsB cs))) := by rw [← hs, he]
  rw [hs] at hz ⊢
  have hm : s.size ≤ 65536 := by omega
  have h0 : newE s = 0 := if_neg (by omega)
  have z1 := textsB_size f3
  have z2 := textsB_size f4
  have a1 : decN s = (k, 4, 0) := by
    have := tNum_mid (p := ⟨#[]⟩) (q := numS ls.length ++ (textsB ls ++ (numS cs.length ++ textsB cs))) (n := k) (s := s) (by rw [app_nilL]; exact hs1) hm (by omega) (by omega)
    unfold decN takeN
    rw [h0, if_pos rfl]
    exact this
  have a2 : decL s = (ls, (4 : Int) + 4 + (textsB ls).size, 0) := by
    have := tList_mid (p := numS k) (l := ls) (q := numS cs.length ++ textsB cs) (s := s) hs1 hm (by omega)
    rw [numS_size] at this
    unfold decL takeL
    rw [a1, if_pos rfl]
    exact this
  have a3 : decC s = (cs, (s.size : Int), 0) := by
    have := tList_mid (p := numS k ++ (numS ls.length ++ textsB ls)) (l := cs) (q := ⟨#[]⟩) (s := s) (by rw [hs1, app_empty]; simp only [ByteArray.append_assoc]) hm (by omega)
    rw [ByteArray.size_append, ByteArray.size_append, numS_size, numS_size] at this
    unfold decC takeL
    rw [a2, if_pos rfl]
    simp only
    rw [show (4 : Int) + 4 + (textsB ls).size = ((4 + (4 + (textsB ls).size) : Nat) : Int) by omega, this]
    congr 2
    omega
  have a4 : decE s = 0 := by
    unfold decE endE
    rw [a1, a2, a3]
    simp only [if_true, endC_end hm, h]
  unfold decQ
  rw [a4, if_pos rfl, a1, a2, a3]
/-- Of unlike requests unlike bytes are written. -/
theorem enc_inj {k k' : Int} {ls cs ls' cs' : List ByteArray} (h : rightQ k ls cs = true) (h' : rightQ k' ls' cs' = true) (e : (encQ k ls cs).1 = (encQ k' ls' cs').1) : k = k' ∧ ls = ls' ∧ cs = cs' := by
  have a := dec_enc h
  have b := dec_enc h'
  rw [e, b] at a
  injection a with a1 a2
  injection a2 with a2 a3
  injection a3 with a3 a4
  exact ⟨a1.symm, a2.symm, a3.symm⟩
end Go.Proofs.YtbigcojlpcchiaaGreat.Sy
