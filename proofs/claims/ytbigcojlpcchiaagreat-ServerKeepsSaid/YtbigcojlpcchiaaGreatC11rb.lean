/- Layer 11: the document's Right, May, Encode, Answer, Decode, Read. -/
import Derived.Test.YtbigcojlpcchiaaGreatC11z
import Derived.Test.YtbigcojlpcchiaaGreatM10
namespace Go.Proofs.YtbigcojlpcchiaaGreat.Sy
open Go Go.RowKit
set_option linter.unusedVariables false
set_option linter.unusedSimpArgs false
set_option maxRecDepth 10000
set_option maxHeartbeats 4000000
def szR (n : Int) (b : Bool) (x : ByteArray) : Bool := !(!decide ((x.size : Int) = n) && !(b && decide ((x.size : Int) = 0)))
def rsz_inv (l : List ByteArray) (n : Int) (b : Bool) (m : Nat) (st : St) : Prop := ∃ i : Nat, m = l.length - i ∧ i ≤ l.length ∧ l.all (szR n b) = (l.drop i).all (szR n b) ∧
  st = ⟨36, [(7, .val (.int .i64 i)), (2, .val (.bool b)), (1, .val (.int .i64 n)), (0, .rd 1 (strs l))], [], 64⟩
theorem refsized_call {l : List ByteArray} (n : Int) (b : Bool) (hl : l.length ≤ 4294967296) : CallOk Tryz.prog 68 [.rd 1 (strs l), .val (.int .i64 n), .val (.bool b)] [] (.val (.bool (l.all (szR n b) && decide (l.length ≤ 200)))) [] := by
  refine .of_exec Tryz.func68 rfl (enters_68) rfl rfl (Nat.le_of_ble_eq_true rfl) (fun n _ => rfl) ?_
  simp
  refine WPg.loopW (rsz_inv l n b) ⟨l.length, _, ?_, ⟨0, by simp, by simp, rfl, rfl⟩⟩ ?_
  · exact Wk.rn [] rfl (by simp) (by simp) (by simp)
  rintro m st ⟨i, h1, h2, h3, rfl⟩
  by_cases hi : i < l.length
  · have hi' : (i : Int) < l.length := by omega
    have hw : IntKind.i64.wrap ((i : Int) + 1) = ((i + 1 : Nat) : Int) := by rw [w64 (by omega) (by omega)]; omega
    obtain ⟨x, hx⟩ : ∃ x, l[i] = x := ⟨_, rfl⟩
    rw [List.drop_eq_getElem_cons hi, hx, List.all_cons] at h3
    by_cases c1 : (x.size : Int) = n
    · have e : szR n b x = true := by simp [szR, c1]
      rw [e, Bool.true_and] at h3
      simp [hi, hi', hx, c1]
      refine ⟨l.length - (i + 1), by omega, _, ?_, ⟨i + 1, rfl, by omega, h3, rfl⟩⟩
      rw [hw]
      exact Wk.rn [] rfl (by simp) (by simp) (by simp)
    · cases b with
      | false =>
        have e : szR n false x = false := by simp [szR, c1]
        rw [e, Bool.false_and] at h3
        simp [hi, hi', hx, c1]
        exact .plain (by simp) (by simp [h3])
      | true =>
        by_cases c2 : (x.size : Int) = 0
        · have e : szR n true x = true := by simp [szR, c2]
          have c2' : x.size = 0 := by omega
          rw [e, Bool.true_and] at h3
          simp [hi, hi', hx, c1, c2, c2']
          refine ⟨l.length - (i + 1), by omega, _, ?_, ⟨i + 1, rfl, by omega, h3, rfl⟩⟩
          rw [hw]
          exact Wk.rn [] rfl (by simp) (by simp) (by simp)
        · have c2' : ¬ x.size = 0 := by omega
          have e : szR n true x = false := by simp [szR, c1, c2']
          rw [e, Bool.false_and] at h3
          simp [hi, hi', hx, c1, c2, c2']
          exact .plain (by simp) (by simp [h3])
  · obtain rfl : i = l.length := by omega
    rw [List.drop_length] at h3
    by_cases c : l.length ≤ 200
    · have c' : (l.length : Int) ≤ 200 := by omega
      simp [c, c']
      exact .plain (by simp) (by simp [h3, c])
    · have c' : ¬ (l.length : Int) ≤ 200 := by omega
      simp [c, c']
      exact .plain (by simp) (by simp [h3, c])
def ronce_out (l : List ByteArray) (m : Nat) (st : St) : Prop := ∃ i : Nat, m = l.length - i ∧ i ≤ l.length ∧ (l.take i).Nodup ∧
  st = ⟨25, [(3, .val (.int .i64 i)), (0, .rd 1 (strs l))], [], 64⟩
def ronce_in (l : List ByteArray) (i : Nat) (x : ByteArray) (m : Nat) (st : St) : Prop := ∃ k : Nat, m = i - k ∧ k ≤ i ∧ (∀ y ∈ l.take k, x ≠ y) ∧
  st = ⟨25, [(4, .val (.int .i64 k)), (3, .val (.int .i64 i)), (0, .rd 1 (strs l))], [], 64⟩
theorem nodup_take {l : List ByteArray} {i : Nat} (hi : i < l.length) : (l.take (i + 1)).Nodup ↔ (l.take i).Nodup ∧ ∀ y ∈ l.take i, l[i] ≠ y := by
  rw [List.take_add_one, List.getElem?_eq_getElem hi]
  simp only [Option.toList_some, List.nodup_append, List.mem_singleton, List.nodup_cons, List.not_mem_nil, not_false_eq_true, List.nodup_nil, and_self, true_and]
  refine ⟨fun h => ⟨h.1, fun y hy e => h.2 y hy _ rfl e.symm⟩, fun h => ⟨h.1, fun a ha b hb e => h.2 a ha (by rw [← hb, e])⟩⟩
theorem refonce_call {l : List ByteArray} (hl : l.length ≤ 4294967296) : CallOk Tryz.prog 69 [.rd 1 (strs l)] [] (.val (.bool (decide l.Nodup))) [] := by
  refine .of_exec Tryz.func69 rfl (enters_69) rfl rfl (Nat.le_of_ble_eq_true rfl) (fun n _ => rfl) ?_
  simp
  refine WPg.loopW (ronce_out l) ⟨l.length, _, ?_, ⟨0, by simp, by simp, by simp, rfl⟩⟩ ?_
  · exact Wk.rn [] rfl (by simp) (by simp) (by simp)
  rintro m st ⟨i, h1, h2, h3, rfl⟩
  by_cases hi : i < l.length
  · have hi' : (i : Int) < l.length := by omega
    have hw : IntKind.i64.wrap ((i : Int) + 1) = ((i + 1 : Nat) : Int) := by rw [w64 (by omega) (by omega)]; omega
    obtain ⟨x, hx⟩ : ∃ x, l[i] = x := ⟨_, rfl⟩
    simp [hi, hi']
    refine WPg.loopW (ronce_in l i x) ⟨i, _, ?_, ⟨0, by simp, by simp, by simp, rfl⟩⟩ ?_
    · exact Wk.rn [] rfl (by simp) (by simp) (by simp)
    rintro m' st' ⟨k, g1, g2, g3, rfl⟩
    by_cases hk : k < i
    · have hk' : (k : Int) < i := by omega
      have hkl : k < l.length := by omega
      have hkl' : (k : Int) < l.length := by omega
      have hwk : IntKind.i64.wrap ((k : Int) + 1) = ((k + 1 : Nat) : Int) := by rw [w64 (by omega) (by omega)]; omega
      obtain ⟨y, hy⟩ : ∃ y, l[k] = y := ⟨_, rfl⟩
      by_cases c : x = y
      · have hn : ¬ l.Nodup := fun hd => by
          have := (List.getElem?_inj (j := i) hkl hd).1 (by rw [List.getElem?_eq_getElem hkl, List.getElem?_eq_getElem hi, hx, hy, c])
          omega
        simp [hi, hi', hk, hk', hkl, hkl', hx, hy, c]
        refine ⟨rfl, .plain (by simp) (by simp [hn])⟩
      · simp [hi, hi', hk, hk', hkl, hkl', hx, hy, c]
        refine ⟨rfl, i - (k + 1), by omega, _, ?_, ⟨k + 1, rfl, by omega, ?_, rfl⟩⟩
        · rw [hwk]
          exact Wk.rn [] rfl (by simp) (by simp) (by simp)
        · intro z hz
          rw [List.take_add_one, List.getElem?_eq_getElem hkl, hy] at hz
          rcases List.mem_append.1 hz with h | h
          · exact g3 z h
          · rw [List.mem_singleton.1 h]; exact c
    · obtain rfl : k = i := by omega
      simp
      refine ⟨l.length - (k + 1), by omega, _, ?_, ⟨k + 1, rfl, by omega, (nodup_take hi).2 ⟨h3, by rw [hx]; exact g3⟩, rfl⟩⟩
      rw [hw]
      exact Wk.rn [] rfl (by simp) (by simp) (by simp)
  · obtain rfl : i = l.length := by omega
    rw [List.take_length] at h3
    simp
    exact .plain (by simp) (by simp [h3])
theorem szR16 (l : List ByteArray) (n : Int) : l.all (szR n false) = l.all (sizeB n) := by
  congr 1
  funext x
  simp [szR, sizeB]
theorem refRight_call {k : Int} {ls cs : List ByteArray} (hl : ls.length ≤ 4294967296) (hc : cs.length ≤ 4294967296) : CallOk Tryz.prog 37 [reqP k ls cs] [] (.val (.bool (rightQ k ls cs))) [] := by
  refine .of_exec Tryz.func37 rfl (enters_37) rfl rfl (Nat.le_of_ble_eq_true rfl) (fun n _ => rfl) ?_
  have q1 := refsized_call (l := ls) 16 false hl
  have q2 := refsized_call (l := cs) 40 false hc
  have q3 := refonce_call hl
  rw [szR16] at q1 q2
  have hd : rightQ k ls cs = if 200 < ls.length ∨ ls.all (sizeB 16) = false ∨ cs.all (sizeB 40) = false ∨ ¬ ls.Nodup then false
    else if k = 1 then decide (cs.length = ls.length) else if k = 4 then decide (cs.length + ls.length = 0) else decide ((k = 2 ∨ k = 3) ∧ cs.length = 0) := rfl
  generalize ls.all (sizeB 16) = s1 at *
  generalize cs.all (sizeB 40) = s2 at *
  by_cases c1 : k < 1
  · have e : rightQ k ls cs = false := by
      rw [hd]
      split
      · rfl
      · rw [if_neg (by omega), if_neg (by omega), decide_eq_false_iff_not]; omega
    simp [c1]
    exact .plain (by simp) (by simp [e])
  · by_cases c2 : 4 < k
    · have e : rightQ k ls cs = false := by
        rw [hd]
        split
        · rfl
        · rw [if_neg (by omega), if_neg (by omega), decide_eq_false_iff_not]; omega
      simp [c1, c2]
      exact .plain (by simp) (by simp [e])
    · simp [c1, c2]
      refine .plain q1 (by simp) (by simp) ?_
      by_cases b1 : (s1 && decide (ls.length ≤ 200)) = true
      · rw [b1]
        simp only [Bool.and_eq_true, decide_eq_true_eq] at b1
        simp
        refine .plain q2 (by simp) (by simp) ?_
        by_cases b2 : (s2 && decide (cs.length ≤ 200)) = true
        · rw [b2]
          simp only [Bool.and_eq_true, decide_eq_true_eq] at b2
          simp
          refine .plain q3 (by simp) (by simp) ?_
          by_cases b3 : ls.Nodup
          · have e0 : rightQ k ls cs = if k = 1 then decide (cs.length = ls.length) else if k = 4 then decide (cs.length + ls.length = 0) else decide ((k = 2 ∨ k = 3) ∧ cs.length = 0) := by
              rw [hd, if_neg]
              rintro (h | h | h | h)
              · omega
              · rw [b1.1] at h; cases h
              · rw [b2.1] at h; cases h
              · exact h b3
            simp [b3]
            by_cases k1 : k = 1
            · have e : rightQ k ls cs = decide ((cs.length : Int) = ls.length) := by rw [e0, if_pos k1, decide_eq_decide]; omega
              rw [e]
              subst k1
              simp
              exact .plain (by simp) (by simp)
            · by_cases k4 : k = 4
              · have e : rightQ k ls cs = (decide (cs = []) && decide (ls = [])) := by
                  rw [e0, if_neg k1, if_pos k4]
                  simp
                rw [e]
                subst k4
                by_cases z : cs = []
                · simp [z]
                  exact .plain (by simp) (by simp)
                · simp [z]
                  exact .plain (by simp) (by simp)
              · have e : rightQ k ls cs = decide (cs = []) := by
                  rw [e0, if_neg k1, if_neg k4, decide_eq_decide, List.length_eq_zero_iff]
                  exact ⟨fun h => h.2, fun h => ⟨by omega, h⟩⟩
                rw [e]
                simp [k1, k4]
                exact .plain (by simp) (by simp)
          · have e : rightQ k ls cs = false := by rw [hd, if_pos (.inr (.inr (.inr b3)))]
            simp [b3]
            exact .plain (by simp) (by simp [e])
        · have b2' := Bool.of_not_eq_true b2
          rw [b2']
          have e : rightQ k ls cs = false := by
            rw [hd]
            split
            · rfl
            · rename_i hh
              have g1 : ¬ 200 < ls.length := fun h => hh (.inl h)
              have g2 : s2 = true := Bool.of_not_eq_false fun h => hh (.inr (.inr (.inl h)))
              rw [g2] at b2'
              have g3 : ¬ cs.length ≤ 200 := by simpa using b2'
              by_cases k1 : k = 1
              · rw [if_pos k1, decide_eq_false_iff_not]; omega
              · rw [if_neg k1]
                split <;> rw [decide_eq_false_iff_not] <;> omega
          simp
          exact .plain (by simp) (by simp [e])
      · have b1' := Bool.of_not_eq_true b1
        rw [b1']
        have e : rightQ k ls cs = false := by
          rw [hd]
          split
          · rfl
          · rename_i hh
            have g1 : ¬ 200 < ls.length := fun h => hh (.inl h)
            have g2 : s1 = true := Bool.of_not_eq_false fun h => hh (.inr (.inl h))
            rw [g2] at b1'
            have g3 : ¬ ls.length ≤ 200 := by simpa using b1'
            omega
        simp
        exact .plain (by simp) (by simp [e])
theorem mayR_false {k st m r : Int} {cs : List ByteArray} (h : ¬ (0 ≤ k ∧ k ≤ 4 ∧ 0 ≤ st ∧ st ≤ 2 ∧ (cs.all cellB = true ∧ cs.length ≤ 200) ∧ 0 ≤ m ∧ m ≤ 2147483647 ∧ 0 ≤ r ∧ r ≤ 2147483647)) : mayA k st cs m r = false := by
  cases c : mayA k st cs m r with
  | false => rfl
  | true =>
    obtain ⟨f1, f2, _, _, _, _, f3, f4, f5, f6, f7, f8, f9, f10⟩ := may_facts c
    refine absurd ⟨f1, f2, f3, f4, ⟨List.all_eq_true.2 fun x hx => ?_, f5⟩, f7, f8, f9, f10⟩ h
    rcases f6 x hx with e | e
    · simp [cellB, e]
    · simp [cellB, e]
theorem szR40 (l : List ByteArray) : l.all (szR 40 true) = l.all cellB := by
  congr 1
  funext x
  simp [szR, cellB, Bool.or_comm]
theorem refMay_call {k st m r : Int} {cs : List ByteArray} (hc : cs.length ≤ 4294967296) : CallOk Tryz.prog 51 [resP k st cs m r] [] (.val (.bool (mayA k st cs m r))) [] := by
  refine .of_exec Tryz.func51 rfl (enters_51) rfl rfl (Nat.le_of_ble_eq_true rfl) (fun n _ => rfl) ?_
  have q1 := refsized_call (l := cs) 40 true hc
  rw [szR40] at q1
  have hf := mayR_false (k := k) (st := st) (m := m) (r := r) (cs := cs)
  have hd : mayA k st cs m r = (emptyA k st cs m r && (decide (0 ≤ st) && (decide (st ≤ 2) && (decide (cs.length ≤ 200) && (cs.all cellB && (numB m && numB r)))))) := rfl
  by_cases c1 : k < 0
  · have e := hf (by omega)
    simp [c1]
    exact .plain (by simp) (by simp [e])
  by_cases c2 : 4 < k
  · have e := hf (by omega)
    simp [c1, c2]
    exact .plain (by simp) (by simp [e])
  by_cases c3 : st < 0
  · have e := hf (by omega)
    simp [c1, c2, c3]
    exact .plain (by simp) (by simp [e])
  by_cases c4 : 2 < st
  · have e := hf (by omega)
    simp [c1, c2, c3, c4]
    exact .plain (by simp) (by simp [e])
  simp [c1, c2, c3, c4]
  refine .plain q1 (by simp) (by simp) ?_
  by_cases b1 : (cs.all cellB && decide (cs.length ≤ 200)) = true
  · rw [b1]
    simp only [Bool.and_eq_true, decide_eq_true_eq] at b1
    by_cases c5 : m < 0
    · have e := hf (by omega)
      simp [c5]
      exact .plain (by simp) (by simp [e])
    by_cases c6 : 2147483647 < m
    · have e := hf (by omega)
      simp [c5, c6]
      exact .plain (by simp) (by simp [e])
    by_cases c7 : r < 0
    · have e := hf (by omega)
      simp [c5, c6, c7]
      exact .plain (by simp) (by simp [e])
    by_cases c8 : 2147483647 < r
    · have e := hf (by omega)
      simp [c5, c6, c7, c8]
      exact .plain (by simp) (by simp [e])
    have e : mayA k st cs m r = (((decide (k = 1) || decide (st = 0)) && (decide (k = 2) || decide (cs = []))) && (decide (k = 3 ∨ k = 4) || decide (m = 0)) && (decide (k = 4) || decide (r = 0))) := by
      rw [hd, b1.1]
      unfold numB emptyA
      rw [Bool.eq_iff_iff]
      simp only [Bool.and_eq_true, Bool.or_eq_true, decide_eq_true_eq]
      constructor
      · rintro ⟨⟨g1, g2, g3, g4, g5⟩, _⟩
        exact ⟨⟨⟨g2, g3⟩, by omega⟩, g5⟩
      · rintro ⟨⟨⟨g2, g3⟩, g4⟩, g5⟩
        exact ⟨⟨by omega, g2, g3, by omega, g5⟩, by omega, by omega, b1.2, trivial, by omega, by omega⟩
    rw [e]
    have hk : k = 0 ∨ k = 1 ∨ k = 2 ∨ k = 3 ∨ k = 4 := by omega
    rcases hk with rfl | rfl | rfl | rfl | rfl
    · by_cases s0 : st = 0
      · simp [c5, c6, c7, c8, s0]
        exact .plain (by simp) (by simp)
      · simp [c5, c6, c7, c8, s0]
        exact .plain (by simp) (by simp)
    · simp [c5, c6, c7, c8]
      exact .plain (by simp) (by simp)
    · by_cases s0 : st = 0
      · simp [c5, c6, c7, c8, s0]
        exact .plain (by simp) (by simp)
      · simp [c5, c6, c7, c8, s0]
        exact .plain (by simp) (by simp)
    · by_cases s0 : st = 0
      · simp [c5, c6, c7, c8, s0]
        exact .plain (by simp) (by simp)
      · simp [c5, c6, c7, c8, s0]
        exact .plain (by simp) (by simp)
    · by_cases s0 : st = 0
      · simp [c5, c6, c7, c8, s0]
        exact .plain (by simp) (by simp)
      · simp [c5, c6, c7, c8, s0]
        exact .plain (by simp) (by simp)
  · have b1' := Bool.of_not_eq_true b1
    rw [b1']
    have e := hf (fun h => b1 (by simp [h.2.2.2.2.1]))
    simp
    exact .plain (by simp) (by simp [e])
theorem refEncode_call {k : Int} {ls cs : List ByteArray} (hk : isI64 k) (hl : ls.length ≤ 4294967296) (hc : cs.length ≤ 4294967296) : CallOk Tryz.prog 21 [reqP k ls cs] [] (.tup [.val (.string (encQ k ls cs).1), eN (encQ k ls cs).2]) [] := by
  refine .of_exec Tryz.func21 rfl (enters_21) rfl rfl (Nat.le_of_ble_eq_true rfl) (fun n _ => rfl) ?_
  simp
  refine .plain (refRight_call hl hc) (by simp) (by simp) ?_
  cases c : rightQ k ls cs with
  | false =>
    have e : encQ k ls cs = (⟨#[]⟩, 1) := if_neg (by rw [c]; simp)
    simp
    exact .plain (by simp) (by simp [e])
  | true =>
    obtain ⟨f1, f2, f3, f4, f5, f6, f7, _⟩ := right_facts c
    have z1 := textsB_size f3
    have z2 := textsB_size f4
    have e := encQ_ok c
    have en : (numE k).1 = numS k := by unfold numE; rw [if_neg (by omega)]
    have e1 : (listE ls).1 = numS ls.length ++ textsB ls := by rw [listE_ok (by omega) (by omega)]
    have e2 : (listE cs).1 = numS cs.length ++ textsB cs := by rw [listE_ok (by omega) (by omega)]
    have m2 : (∀ x ∈ ls, x.size ≤ maxLen) ∧ (∀ x ∈ cs, x.size ≤ maxLen) := ⟨fun x hx => by rw [f3 x hx]; decide, fun x hx => by rw [f4 x hx]; decide⟩
    have m1 : ls.length ≤ maxLen ∧ cs.length ≤ maxLen := by unfold maxLen; omega
    have n1 := num10_call hk
    have n2 := whole10_call m1.1 m2.1
    have n3 := whole10_call m1.2 m2.2
    rw [en] at n1
    rw [e1] at n2
    rw [e2] at n3
    have v1 : (numS k).size + (numS ls.length ++ textsB ls).size ≤ 9223372036854775807 := by simp only [ByteArray.size_append, numS_size]; omega
    have v2 : (numS k).size + (numS ls.length ++ textsB ls).size + (numS cs.length ++ textsB cs).size ≤ 9223372036854775807 := by simp only [ByteArray.size_append, numS_size]; omega
    have e' : (encQ k ls cs).1 = (numS k ++ (numS ls.length ++ textsB ls)) ++ (numS cs.length ++ textsB cs) := by rw [e]; simp only [ByteArray.append_assoc]
    have e'' : (encQ k ls cs).2 = 0 := by rw [e]
    rw [e', e'']
    generalize numS ls.length ++ textsB ls = s1 at *
    generalize numS cs.length ++ textsB cs = s2 at *
    generalize numS k = s0 at *
    simp
    refine .plain n1 (by simp) (by simp) ?_
    simp
    refine .plain n2 (by simp) (by simp) ?_
    simp
    refine ⟨v1, fun _ => .plain n3 (by simp) (by simp) ?_⟩
    simp
    refine ⟨v2, fun _ => ⟨rfl, ?_⟩⟩
    exact .plain (by simp) (by simp)
theorem refAnswer_call {k st m r : Int} {cs : List ByteArray} (hk : isI64 k) (hst : isI64 st) (hm : isI64 m) (hr : isI64 r) (hc : cs.length ≤ 4294967296) : CallOk Tryz.prog 47 [resP k st cs m r] [] (.tup [.val (.string (ansA k st cs m r).1), eN (ansA k st cs m r).2]) [] := by
  refine .of_exec Tryz.func47 rfl (enters_47) rfl rfl (Nat.le_of_ble_eq_true rfl) (fun n _ => rfl) ?_
  simp
  refine .plain (refMay_call hc) (by simp) (by simp) ?_
  cases c : mayA k st cs m r with
  | false =>
    have e : ansA k st cs m r = (⟨#[]⟩, 1) := if_neg (by rw [c]; simp)
    simp
    exact .plain (by simp) (by simp [e])
  | true =>
    obtain ⟨f1, f2, _, _, _, _, f3, f4, f5, f6, f7, f8, f9, f10⟩ := may_facts c
    have z := textsB_le (n := 40) (l := cs) fun x hx => by rcases f6 x hx with e | e <;> omega
    have e := ansA_ok c
    have en1 := numE_of f1 (by omega)
    have en2 := numE_of f3 (by omega)
    have en3 := numE_of f7 f8
    have en4 := numE_of f9 f10
    have e1 : (listE cs).1 = numS cs.length ++ textsB cs := by rw [listE_ok (by omega) (by omega)]
    have m2 : ∀ x ∈ cs, x.size ≤ maxLen := fun x hx => by unfold maxLen; rcases f6 x hx with h | h <;> omega
    have m1 : cs.length ≤ maxLen := by unfold maxLen; omega
    have n1 := num10_call hk
    have n2 := num10_call hst
    have n3 := whole10_call m1 m2
    have n4 := num10_call hm
    have n5 := num10_call hr
    rw [en1] at n1
    rw [en2] at n2
    rw [e1] at n3
    rw [en3] at n4
    rw [en4] at n5
    have z0 : (numS k).size = 4 := numS_size k
    have z1 : (numS st).size = 4 := numS_size st
    have z2 : (numS cs.length ++ textsB cs).size ≤ 10000 := by rw [ByteArray.size_append, numS_size]; omega
    have z3 : (numS m).size = 4 := numS_size m
    have z4 : (numS r).size = 4 := numS_size r
    have e' : (ansA k st cs m r).1 = (((numS k ++ numS st) ++ (numS cs.length ++ textsB cs)) ++ numS m) ++ numS r := by rw [e]; simp only [ByteArray.append_assoc]
    have e'' : (ansA k st cs m r).2 = 0 := by rw [e]
    rw [e', e'']
    generalize numS cs.length ++ textsB cs = s2 at *
    generalize numS k = s0 at *
    generalize numS st = s1 at *
    generalize numS m = s3 at *
    generalize numS r = s4 at *
    have v1 : s0.size + s1.size ≤ 9223372036854775807 := by omega
    have v2 : s0.size + s1.size + s2.size ≤ 9223372036854775807 := by omega
    have v3 : s0.size + s1.size + s2.size + s3.size ≤ 9223372036854775807 := by omega
    have v4 : s0.size + s1.size + s2.size + s3.size + s4.size ≤ 9223372036854775807 := by omega
    simp
    refine .plain n1 (by simp) (by simp) ?_
    simp
    refine .plain n2 (by simp) (by simp) ?_
    simp
    refine ⟨v1, fun _ => .plain n3 (by simp) (by simp) ?_⟩
    simp
    refine ⟨v2, fun _ => .plain n4 (by simp) (by simp) ?_⟩
    simp
    refine ⟨v3, fun _ => .plain n5 (by simp) (by simp) ?_⟩
    simp
    refine ⟨v4, fun _ => ⟨rfl, ?_⟩⟩
    exact .plain (by simp) (by simp)
end Go.Proofs.YtbigcojlpcchiaaGreat.Sy
