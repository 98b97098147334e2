/- Layer 11: the same responses; the law's responses may be; what is read with another kind's bytes. -/
import Derived.Test.YtbigcojlpcchiaaGreatC11s
import Derived.Test.YtbigcojlpcchiaaGreatC11x
import Derived.Test.YtbigcojlpcchiaaGreatC11k
namespace Go.Proofs.YtbigcojlpcchiaaGreat.Sy
open Go Go.RowKit
set_option linter.unusedVariables false
set_option linter.unusedSimpArgs false
set_option maxRecDepth 10000
set_option maxHeartbeats 4000000
theorem alike_call {k k' st st' m m' r r' : Int} {cs cs' : List ByteArray} (h1 : cs.length ≤ 4294967296) (h2 : cs'.length ≤ 4294967296) :
    CallOk Tryz.prog 20 [resP k st cs m r, resP k' st' cs' m' r'] [] (.val (.bool (decide (k = k' ∧ st = st' ∧ m = m' ∧ r = r' ∧ cs = cs')))) [] := by
  refine .of_exec Tryz.func20 rfl (enters_20) rfl rfl (Nat.le_of_ble_eq_true rfl) (fun n _ => rfl) ?_
  by_cases c1 : k = k'
  · subst c1
    by_cases c2 : st = st'
    · subst c2
      by_cases c3 : m = m'
      · subst c3
        by_cases c4 : r = r'
        · subst c4
          simp
          refine .plain (texts11_call cs cs' h1 h2) (by simp) (by simp) ?_
          simp
          exact .plain (by simp) (by simp)
        · simp [c4]
          exact .plain (by simp) (by simp [c4])
      · simp [c3]
        exact .plain (by simp) (by simp [c3])
    · simp [c2]
      exact .plain (by simp) (by simp [c2])
  · simp [c1]
    exact .plain (by simp) (by simp [c1])
theorem cellR_ok (n : Int) : cellB (cellR n) = true := by
  unfold cellR
  split
  · simp [cellB, cellJ_size]
  · rfl
theorem rsp_may (kind a b c : Int) (raw : List Int) : mayA (pickI kind 5) (rspS (pickI kind 5) a) (rspC (pickI kind 5) raw) (rspM (pickI kind 5) b) (rspR (pickI kind 5) c) = true := by
  have hp := pickI_range (c := kind) (n := 5) (by omega)
  have ha := pickI_range (c := a) (n := 3) (by omega)
  have hb := pickI_range (c := b) (n := 2147483648) (by omega)
  have hc := pickI_range (c := c) (n := 2147483648) (by omega)
  generalize pickI kind 5 = k at *
  have f1 : k = 1 ∨ rspS k a = 0 := by unfold rspS; split <;> omega
  have f2 : 0 ≤ rspS k a ∧ rspS k a ≤ 2 := by unfold rspS; split <;> omega
  have f3 : k = 3 ∨ k = 4 ∨ rspM k b = 0 := by unfold rspM; split <;> omega
  have f4 : 0 ≤ rspM k b ∧ rspM k b ≤ 2147483647 := by unfold rspM; split <;> omega
  have f5 : k = 4 ∨ rspR k c = 0 := by unfold rspR; split <;> omega
  have f6 : 0 ≤ rspR k c ∧ rspR k c ≤ 2147483647 := by unfold rspR; split <;> omega
  have f7 : k = 2 ∨ rspC k raw = [] := by unfold rspC; split
                                          · exact .inl ‹_›
                                          · exact .inr rfl
  have f8 : (rspC k raw).length ≤ 200 := by unfold rspC; split
                                            · rw [List.length_take]; omega
                                            · simp
  have f9 : (rspC k raw).all cellB = true := by
    unfold rspC
    split
    · refine List.all_eq_true.2 fun x hx => ?_
      obtain ⟨n, _, rfl⟩ := List.mem_map.1 (List.mem_of_mem_take hx)
      exact cellR_ok n
    · rfl
  unfold mayA emptyA numB
  rw [f9]
  simp only [Bool.and_eq_true, decide_eq_true_eq]
  exact ⟨⟨by omega, f1, f7, f3, f5⟩, f2.1, f2.2, f8, trivial, f4, f6⟩
theorem rsp_len (k : Int) (raw : List Int) : (rspC k raw).length ≤ 12 := by
  unfold rspC
  split
  · rw [List.length_take]; omega
  · simp
/-- What is read of the bytes of anything that is written as a request is. -/
theorem dec_of {k : Int} {ls cs : List ByteArray} {s : ByteArray} (hs1 : s = numS k ++ (numS ls.length ++ (textsB ls ++ (numS cs.length ++ textsB cs)))) (hm : s.size ≤ 65536) (h0 : 0 ≤ k) (h1 : k ≤ 2147483647) (hl : ls.length ≤ 1000) (hc : cs.length ≤ 1000) :
    decQ s = if rightQ k ls cs = true then (k, ls, cs, 0) else (0, [], [], 13) := by
  have hz : s.size = 12 + (textsB ls).size + (textsB cs).size := by rw [hs1]; simp only [ByteArray.size_append, numS_size]; omega
  have hn0 : newE s = 0 := if_neg (by omega)
  have a1 : decN s = (k, 4, 0) := by
    have := tNum_mid (p := ⟨#[]⟩) (q := numS ls.length ++ (textsB ls ++ (numS cs.length ++ textsB cs))) (n := k) (s := s) (by rw [app_nilL]; exact hs1) hm h0 h1
    unfold decN takeN
    rw [hn0, if_pos rfl]
    exact this
  have a2 : decL s = (ls, (4 : Int) + 4 + (textsB ls).size, 0) := by
    have := tList_mid (p := numS k) (l := ls) (q := numS cs.length ++ textsB cs) (s := s) hs1 hm (by omega)
    rw [numS_size] at this
    unfold decL takeL
    rw [a1, if_pos rfl]
    exact this
  have a3 : decC s = (cs, (s.size : Int), 0) := by
    have := tList_mid (p := numS k ++ (numS ls.length ++ textsB ls)) (l := cs) (q := ⟨#[]⟩) (s := s) (by rw [hs1, app_empty]; simp only [ByteArray.append_assoc]) hm (by omega)
    rw [ByteArray.size_append, ByteArray.size_append, numS_size, numS_size] at this
    unfold decC takeL
    rw [a2, if_pos rfl]
    simp only
    rw [show (4 : Int) + 4 + (textsB ls).size = ((4 + (4 + (textsB ls).size) : Nat) : Int) by omega, this]
    congr 2
    omega
  cases hr : rightQ k ls cs with
  | true =>
    have a4 : decE s = 0 := by
      unfold decE endE
      rw [a1, a2, a3]
      simp only [if_true, endC_end hm, hr]
    unfold decQ
    rw [a4, if_pos rfl, if_pos rfl, a1, a2, a3]
  | false =>
    have a4 : decE s = 13 := by
      unfold decE endE
      rw [a1, a2, a3]
      simp [endC_end hm, hr]
    unfold decQ
    rw [a4, if_neg (by omega), if_neg (by simp)]
/-- What is read of bytes that begin with a number is of that kind. -/
theorem read_kind {k : Int} {s q : ByteArray} (hs : s = numS k ++ q) (h0 : 0 ≤ k) (h1 : k ≤ 2147483647) (h : (readA s).e = 0) : (readA s).k = k ∧ k ≤ 4 := by
  have hE : rdX s = 0 := by
    unfold readA at h
    by_cases c : rdX s = 0
    · exact c
    · rw [if_neg c] at h; exact h
  obtain ⟨e5, hend, hr⟩ := endE_back (s := s) hE
  have hk := may_facts hr
  obtain ⟨e4, t5⟩ := takeN_back (s := s) (a := (rdM s).2.1) (e := (rdM s).2.2) e5
  obtain ⟨e3, t4⟩ := takeN_back (s := s) (a := (rdC s).2.1) (e := (rdC s).2.2) e4
  obtain ⟨e2, t3⟩ := takeL_back (s := s) (a := (rdS s).2.1) (e := (rdS s).2.2) e3
  obtain ⟨e1, t2⟩ := takeN_back (s := s) (a := (rdE s).2.1) (e := (rdE s).2.2) e2
  obtain ⟨e0, t1⟩ := takeN_back (s := s) (a := 0) (e := newE s) e1
  rw [← rdE] at t1
  rw [t1] at e1
  obtain ⟨k1, k2, k3, k4, k5, k6⟩ := tNum_back (a := 0) e1
  have a1 := tNum_mid (p := ⟨#[]⟩) (q := q) (n := k) (s := s) (by rw [app_nilL]; exact hs) k1 h0 h1
  have a2 : (rdE s).1 = k := by
    rw [t1]
    have : tNum s 0 = (k, (0 : Int) + 4, 0) := a1
    rw [this]
  have hq : readA s = ⟨(rdE s).1, (rdS s).1, (rdC s).1, (rdM s).1, (rdR s).1, 0⟩ := by unfold readA; rw [if_pos hE]
  rw [hq]
  exact ⟨a2, by rw [← a2]; exact hk.2.1⟩
theorem numS_byte {k : Int} (h0 : 0 ≤ k) (h : k < 256) : (⟨#[0, 0, 0]⟩ : ByteArray) ++ strOfNums [k] = numS k := by
  have e : (⟨#[0, 0, 0]⟩ : ByteArray) = strOfNums [0, 0, 0] := rfl
  rw [e, strOfNums_append]
  unfold numS
  have a1 : k / 16777216 = 0 := by omega
  have a2 : k / 65536 % 256 = 0 := by omega
  have a3 : k / 256 % 256 = 0 := by omega
  have a4 : k % 256 = k := by omega
  rw [a1, a2, a3, a4]
  rfl
theorem ext_from {p q : ByteArray} {n : Nat} (h : p.size = n) : (p ++ q).extract n (p ++ q).size = q := by
  have := ext_mid p q ⟨#[]⟩
  rw [app_empty] at this
  rw [ByteArray.size_append, ← h]
  exact this
/-- With another kind a request may be, or not. -/
theorem right_other {k j : Int} {ls cs : List ByteArray} (h : rightQ k ls cs = true) : rightQ j ls cs = ((decide (1 ≤ j) && decide (j ≤ 4)) && (decide (j = k) || (!(decide (k = 1) && decide (0 < ls.length)) && (decide (ls.length = 0) || (!decide (j = 4) && !decide (j = 1)))))) := by
  obtain ⟨f1, f2, f3, f4, f5, f6, f7, g1, g4, g2⟩ := right_facts h
  have c2 : ls.all (sizeB 16) = true := List.all_eq_true.2 fun x hx => by simp [sizeB, f3 x hx]
  have c3 : cs.all (sizeB 40) = true := List.all_eq_true.2 fun x hx => by simp [sizeB, f4 x hx]
  have e0 : rightQ j ls cs = if j = 1 then decide (cs.length = ls.length) else if j = 4 then decide (cs.length + ls.length = 0) else decide ((j = 2 ∨ j = 3) ∧ cs.length = 0) := if_neg (by rw [c2, c3]; simp [f5]; omega)
  have g4' : k = 4 → cs.length = 0 ∧ ls.length = 0 := fun e => by obtain ⟨a, b⟩ := g4 e; rw [a, b]; exact ⟨rfl, rfl⟩
  have g2' : k ≠ 1 → cs.length = 0 := fun e => by rw [g2 e]; rfl
  rw [e0]
  generalize cs.length = c at *
  generalize ls.length = l at *
  rw [Bool.eq_iff_iff]
  by_cases j1 : j = 1
  · rw [if_pos j1]
    simp only [Bool.and_eq_true, Bool.or_eq_true, Bool.not_eq_true', decide_eq_true_eq, decide_eq_false_iff_not, Bool.and_eq_false_iff]
    omega
  · by_cases j4 : j = 4
    · rw [if_neg j1, if_pos j4]
      simp only [Bool.and_eq_true, Bool.or_eq_true, Bool.not_eq_true', decide_eq_true_eq, decide_eq_false_iff_not, Bool.and_eq_false_iff]
      omega
    · rw [if_neg j1, if_neg j4]
      simp only [Bool.and_eq_true, Bool.or_eq_true, Bool.not_eq_true', decide_eq_true_eq, decide_eq_false_iff_not, Bool.and_eq_false_iff]
      omega
end Go.Proofs.YtbigcojlpcchiaaGreat.Sy
