/- Layer 11: what was answered is read, in plain words. -/
import Derived.Test.YtbigcojlpcchiaaGreatC11v
import Derived.Test.YtbigcojlpcchiaaGreatC11g
namespace Go.Proofs.YtbigcojlpcchiaaGreat.Sy
open Go Go.RowKit
set_option linter.unusedVariables false
set_option linter.unusedSimpArgs false
set_option maxRecDepth 10000
theorem catB5 (a b c d e : ByteArray) : catB [a, b, c, d, e] = a ++ (b ++ (c ++ (d ++ e))) := by rw [catB_cons, catB_cons, catB_cons, catB_cons, catB_cons, catB, app_empty]
theorem textsB_le {n : Nat} : ∀ {l : List ByteArray}, (∀ x ∈ l, x.size ≤ n) → (textsB l).size ≤ (4 + n) * l.length
  | [], _ => Nat.zero_le _
  | x :: r, h => by
    have h1 := h x (List.mem_cons_self ..)
    have h2 := textsB_le (n := n) (l := r) fun y hy => h y (List.mem_cons_of_mem _ hy)
    rw [textsB, ByteArray.size_append, ByteArray.size_append, numS_size, List.length_cons, Nat.mul_succ]
    omega
/-- What is written of a response that may be. -/
theorem ansA_ok {k st m r : Int} {cs : List ByteArray} (h : mayA k st cs m r = true) : ansA k st cs m r = (numS k ++ (numS st ++ (numS cs.length ++ (textsB cs ++ (numS m ++ numS r)))), 0) := by
  obtain ⟨f1, f2, _, _, _, _, f3, f4, f5, f6, f7, f8, f9, f10⟩ := may_facts h
  have z := textsB_le (n := 40) (l := cs) fun x hx => by rcases f6 x hx with e | e <;> omega
  unfold ansA
  rw [if_pos h, numE_of f1 (by omega), numE_of f3 (by omega), numE_of f7 f8, numE_of f9 f10, listE_ok (by omega) (by omega), catB5]
  simp only [ByteArray.append_assoc]
theorem ansA_size {k st m r : Int} {cs : List ByteArray} (h : mayA k st cs m r = true) : (ansA k st cs m r).1.size = 20 + (textsB cs).size := by
  rw [ansA_ok h]
  simp only [ByteArray.size_append, numS_size]
  omega
theorem read_ans {k st m r : Int} {cs : List ByteArray} (h : mayA k st cs m r = true) : readA (ansA k st cs m r).1 = ⟨k, st, cs, m, r, 0⟩ := by
  obtain ⟨f1, f2, _, _, _, _, f3, f4, f5, f6, f7, f8, f9, f10⟩ := may_facts h
  have z := textsB_le (n := 40) (l := cs) fun x hx => by rcases f6 x hx with e | e <;> omega
  have hz := ansA_size h
  have he := ansA_ok h
  obtain ⟨s, hs⟩ : ∃ s, (ansA k st cs m r).1 = s := ⟨_, rfl⟩
  have hs1 : s = numS k ++ (numS st ++ (numS cs.length ++ (textsB cs ++ (numS m ++ numS r)))) := by rw [← hs, he]
  rw [hs] at hz ⊢
  have hm : s.size ≤ 65536 := by omega
  have h0 : newE s = 0 := if_neg (by omega)
  have a1 : rdE s = (k, 4, 0) := by
    have := tNum_mid (p := ⟨#[]⟩) (q := numS st ++ (numS cs.length ++ (textsB cs ++ (numS m ++ numS r)))) (n := k) (s := s) (by rw [app_nilL]; exact hs1) hm (by omega) (by omega)
    unfold rdE takeN
    rw [h0, if_pos rfl]
    exact this
  have a2 : rdS s = (st, 8, 0) := by
    have := tNum_mid (p := numS k) (q := numS cs.length ++ (textsB cs ++ (numS m ++ numS r))) (n := st) (s := s) hs1 hm f3 (by omega)
    rw [numS_size] at this
    unfold rdS takeN
    rw [a1, if_pos rfl]
    exact this
  have a3 : rdC s = (cs, (8 : Int) + 4 + (textsB cs).size, 0) := by
    have := tList_mid (p := numS k ++ numS st) (l := cs) (q := numS m ++ numS r) (s := s) (by rw [hs1]; simp only [ByteArray.append_assoc]) hm (by omega)
    rw [ByteArray.size_append, numS_size, numS_size] at this
    unfold rdC takeL
    rw [a2, if_pos rfl]
    exact this
  have a4 : rdM s = (m, (8 : Int) + 4 + (textsB cs).size + 4, 0) := by
    have := tNum_mid (p := numS k ++ (numS st ++ (numS cs.length ++ textsB cs))) (q := numS r) (n := m) (s := s) (by rw [hs1]; simp only [ByteArray.append_assoc]) hm f7 f8
    simp only [ByteArray.size_append, numS_size] at this
    unfold rdM takeN
    rw [a3, if_pos rfl]
    simp only
    rw [show (8 : Int) + 4 + (textsB cs).size = ((4 + (4 + (4 + (textsB cs).size)) : Nat) : Int) by omega, this]
  have a5 : rdR s = (r, (s.size : Int), 0) := by
    have := tNum_mid (p := numS k ++ (numS st ++ (numS cs.length ++ (textsB cs ++ numS m)))) (q := ⟨#[]⟩) (n := r) (s := s) (by rw [hs1, app_empty]; simp only [ByteArray.append_assoc]) hm f9 f10
    simp only [ByteArray.size_append, numS_size] at this
    unfold rdR takeN
    rw [a4, if_pos rfl]
    simp only
    rw [show (8 : Int) + 4 + (textsB cs).size + 4 = ((4 + (4 + (4 + ((textsB cs).size + 4))) : Nat) : Int) by omega, this]
    congr 2
    omega
  have a6 : rdX s = 0 := by
    unfold rdX endE
    rw [a1, a2, a3, a4, a5]
    simp only [if_true, endC_end hm, h]
  unfold readA
  rw [a6, if_pos rfl, a1, a2, a3, a4, a5]
end Go.Proofs.YtbigcojlpcchiaaGreat.Sy
