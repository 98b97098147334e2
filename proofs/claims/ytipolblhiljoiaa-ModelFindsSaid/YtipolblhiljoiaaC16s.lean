/- Layer 16: the document's Split, Sorted, Set. -/
import Derived.Test.YtipolblhiljoiaaC16r
namespace Go.Proofs.Ytipolblhiljoiaa.Sy
open Go Go.RowKit
set_option linter.unusedVariables false
set_option linter.unusedSimpArgs false
set_option maxRecDepth 10000
set_option maxHeartbeats 4000000
theorem strOf_append (a b : List Int) : strOfNums a ++ strOfNums b = strOfNums (a ++ b) := by
  apply wba_ext
  simp [strOfNums, ByteArray.data_append]
theorem strOf_nil : strOfNums [] = ⟨#[]⟩ := rfl
theorem strOf_cut (p : List Int) (n : Nat) : (strOfNums p).extract 0 n = strOfNums (p.take n) := by
  apply wba_ext
  simp [strOfNums, ByteArray.data_extract]
theorem cut20 (p : List Int) : ∃ n : Nat, (if 20 < (p.length : Int) then 20 else (p.length : Int)) = n ∧ n ≤ p.length ∧ p.take n = p.take 20 := by
  by_cases e : 20 < (p.length : Int)
  · exact ⟨20, by rw [if_pos e]; rfl, by omega, rfl⟩
  · exact ⟨p.length, by rw [if_neg e], by omega, by rw [List.take_length, List.take_of_length_le (by omega)]⟩
def rsplit_inv (s : ByteArray) (m : Nat) (st : St) : Prop := ∃ (i : Nat) (p : List Int) (out : List ByteArray), m = s.size + 1 - i ∧ i ≤ s.size + 1 ∧ wscan ((bytesW s ++ [0]).take i) = (p, out) ∧ p.length ≤ i ∧ out.length ≤ i ∧
  st = ⟨44, [(6, .val (.int .i64 i)), (5, .val (.string (strOfNums p))), (4, .sl 64 1 0 out.length), (0, .val (.string s))], [(64, strO out)], 72⟩
theorem rSplit_call {s : ByteArray} : CallOk Try.prog 27 [.val (.string s)] [] (.tup [.rd 1 (strs (if 2000 < s.size then [] else wordsOf s)), .val (.int .i64 (if 2000 < s.size then 2 else 0))]) [] := by
  refine .of_exec Try.func27 rfl (enters_27) rfl rfl (Nat.le_of_ble_eq_true rfl) (fun n _ => rfl) ?_
  by_cases h : 2000 < s.size
  · have h' : (2000 : Int) < s.size := by omega
    simp [h, h']
    exact .wk _ (Wk.nilRd 1 [(2, .rd 1 []), (3, .val (.int .i64 2))] (by simp)) (by simp) (by simp [strs_nil])
  · have h' : ¬ (2000 : Int) < s.size := by omega
    simp [h, h']
    refine WPg.loopW (rsplit_inv s) ⟨s.size + 1, _, ?_, ⟨0, [], [], by simp, by simp, by simp [wscan], by simp, by simp, rfl⟩⟩ ?_
    · rw [strOf_nil]
      refine (Wk.nil [4] [] 9 1).trans ?_
      exact Wk.rn [(128, 64)] rfl (by simp) (by simp) (by simp [strs_nil])
    rintro m st ⟨i, p, out, h1, h2, h3, h4, h5, rfl⟩
    by_cases hi : i ≤ s.size
    · have hi' : (i : Int) ≤ s.size := by omega
      have hwr : IntKind.i64.wrap ((i : Int) + 1) = ((i + 1 : Nat) : Int) := by rw [w64 (by omega) (by omega)]; omega
      have hlx : (bytesW s ++ [0]).length = s.size + 1 := by rw [List.length_append, bytesI_length]; rfl
      have hlb : i < (bytesW s ++ [0]).length := by omega
      have hstep : wscan ((bytesW s ++ [0]).take (i + 1)) = wstep (p, out) (bytesW s ++ [0])[i] := by rw [wtake_one hlb, wscan_snoc, h3]
      rw [wstep_eq] at hstep
      have hps : ((strOfNums p).size : Int) = p.length := by rw [strOf_size]
      have m1 : 1 ≤ maxLen := by decide
      have m2 : out.length ≤ 140737488355327 := by omega
      have m3 : (out.length + 1) * 16 ≤ 140737488355328 := by omega
      by_cases hb : i < s.size
      · have hb' : (i : Int) < s.size := by omega
        have hbt := btvW hb
        have hr := btv_range s i
        obtain ⟨c, hc⟩ : ∃ c, btv s i = c := ⟨_, rfl⟩
        rw [hc] at hbt hr
        have hx : (bytesW s ++ [0])[i] = c := by rw [List.getElem_append_left (by rw [bytesI_length]; exact hb)]; exact hbt
        rw [hx] at hstep
        have hs := rSign_call (b := c) ⟨hr.1, by omega⟩
        by_cases c0 : signOf c = 0
        · rw [if_pos c0] at hstep
          by_cases c2 : 2 ≤ p.length
          · have c2' : (2 : Int) ≤ p.length := by omega
            have hf : flush p = [strOfNums (p.take 20)] := by unfold flush; rw [if_pos c2]
            rw [hf] at hstep
            obtain ⟨n, hn, hnp, hnt⟩ := cut20 p
            have hnp' : (n : Int) ≤ p.length := by omega
            simp [hi, hi', hb, hb', hc]
            refine .plain hs (by simp) (by simp) ?_
            simp [c0, hps, c2', hn, hnp', m1, m2, m3]
            refine ⟨s.size + 1 - (i + 1), by omega, _, ?_, ⟨i + 1, [], out ++ [strOfNums (p.take 20)], by omega, by omega, hstep, by simp, by simp; omega, rfl⟩⟩
            rw [hwr, strOf_nil, ← hnt, ← strOf_cut]
            exact Wk.rn [(280, 64)] rfl (by simp) (by simp) (by simp)
          · have c2' : ¬ (2 : Int) ≤ p.length := by omega
            have hf : flush p = [] := by unfold flush; rw [if_neg c2]
            rw [hf, List.append_nil] at hstep
            simp [hi, hi', hb, hb', hc]
            refine .plain hs (by simp) (by simp) ?_
            simp [c0, hps, c2']
            refine ⟨s.size + 1 - (i + 1), by omega, _, ?_, ⟨i + 1, [], out, by omega, by omega, hstep, by simp, by omega, rfl⟩⟩
            rw [hwr, strOf_nil]
            exact Wk.rn [(64, 64)] rfl (by simp) (by simp) (by simp)
        · rw [if_neg c0] at hstep
          have hsr : 0 < signOf c := by have := signOf_good c0; have := this.2.1; omega
          simp [hi, hi', hb, hb', hc]
          refine .plain hs (by simp) (by simp) ?_
          have hnum : numsOf [[PV.val (Value.int IntKind.u8 (signOf c))]] = some [signOf c] := rfl
          have hsz : (strOfNums p).size + (strOfNums [signOf c]).size ≤ 9223372036854775807 := by rw [strOf_size, strOf_size]; simp; omega
          simp [hsr, m1, hnum, hsz]
          refine ⟨s.size + 1 - (i + 1), by omega, _, ?_, ⟨i + 1, p ++ [signOf c], out, by omega, by omega, hstep, by simp; omega, by omega, rfl⟩⟩
          rw [hwr, ← strOf_append]
          exact Wk.rn [(64, 64)] rfl (by simp) (by simp) (by simp)
      · obtain rfl : i = s.size := by omega
        have hx : (bytesW s ++ [0])[s.size]'hlb = 0 := by
          rw [List.getElem_append_right (by rw [bytesI_length]; exact Nat.le_refl _)]
          simp
        rw [hx, if_pos (by decide)] at hstep
        by_cases c2 : 2 ≤ p.length
        · have c2' : (2 : Int) ≤ p.length := by omega
          have hf : flush p = [strOfNums (p.take 20)] := by unfold flush; rw [if_pos c2]
          rw [hf] at hstep
          obtain ⟨n, hn, hnp, hnt⟩ := cut20 p
          have hnp' : (n : Int) ≤ p.length := by omega
          simp [hps, c2', hn, hnp', m1, m2, m3]
          refine ⟨s.size + 1 - (s.size + 1), by omega, _, ?_, ⟨s.size + 1, [], out ++ [strOfNums (p.take 20)], by omega, by omega, hstep, by simp, by simp; omega, rfl⟩⟩
          rw [hwr, strOf_nil, ← hnt, ← strOf_cut]
          exact Wk.rn [(240, 64)] rfl (by simp) (by simp) (by simp)
        · have c2' : ¬ (2 : Int) ≤ p.length := by omega
          have hf : flush p = [] := by unfold flush; rw [if_neg c2]
          rw [hf, List.append_nil] at hstep
          simp [hps, c2']
          refine ⟨s.size + 1 - (s.size + 1), by omega, _, ?_, ⟨s.size + 1, [], out, by omega, by omega, hstep, by simp, by omega, rfl⟩⟩
          rw [hwr, strOf_nil]
          exact Wk.rn [(64, 64)] rfl (by simp) (by simp) (by simp)
    · obtain rfl : i = s.size + 1 := by omega
      have hi' : ¬ (s.size : Int) + 1 ≤ s.size := by omega
      have hf : wordsOf s = out := by
        unfold wordsOf
        rw [← List.take_of_length_le (l := bytesW s ++ [0]) (i := s.size + 1) (by rw [List.length_append, bytesI_length]; simp), h3]
      simp [hi']
      exact .frz [64] [2, 3] (by simp) (by simp) (by simp) (by simp) (by simp [hf])
/-- Where a word belongs, from behind. -/
def gtW (a b : ByteArray) : Bool := !(ltW a b || decide (a = b))
theorem gtW_lt (a b : ByteArray) : gtW a b = ltW b a := by
  unfold gtW
  rw [ltW_bl, ltW_bl]
  by_cases h1 : bl a < bl b
  · have h2 : ¬ bl b < bl a := List.lt_asymm h1
    simp [h1, h2]
  · by_cases h2 : a = b
    · subst h2; simp [List.lt_irrefl]
    · have h3 : bl b < bl a := by
        rcases Decidable.em (bl b < bl a) with h | h
        · exact h
        · exact absurd (bl_inj (List.le_antisymm (List.not_lt.1 h) (List.not_lt.1 h1))) h2
      simp [h1, h2, h3]
def downW (l : List ByteArray) (s : ByteArray) : Nat → Nat
  | 0 => 0
  | n + 1 => if ltW s (l.getD n ⟨#[]⟩) = true then downW l s n else n + 1
theorem downW_le (l : List ByteArray) (s : ByteArray) : ∀ n, downW l s n ≤ n
  | 0 => Nat.le_refl _
  | n + 1 => by
    rw [downW]
    split
    · exact Nat.le_succ_of_le (downW_le l s n)
    · exact Nat.le_refl _
def insW (l : List ByteArray) (s : ByteArray) : List ByteArray := l.take (downW l s l.length) ++ [s] ++ l.drop (downW l s l.length)
theorem insW_length (l : List ByteArray) (s : ByteArray) : (insW l s).length = l.length + 1 := by
  have := downW_le l s l.length
  simp [insW]; omega
theorem insW_mem (l : List ByteArray) (s w : ByteArray) : w ∈ insW l s ↔ w = s ∨ w ∈ l := by
  unfold insW
  have e := List.take_append_drop (downW l s l.length) l
  constructor
  · intro h
    simp only [List.mem_append, List.mem_singleton] at h
    rcases h with (h | h) | h
    · exact .inr (List.mem_of_mem_take h)
    · exact .inl h
    · exact .inr (List.mem_of_mem_drop h)
  · intro h
    simp only [List.mem_append, List.mem_singleton]
    rcases h with h | h
    · exact .inl (.inr h)
    · rw [← e] at h
      rcases List.mem_append.1 h with h | h
      · exact .inl (.inl h)
      · exact .inr h
theorem insW_rising {l : List ByteArray} {s : ByteArray} (hr : Rising l) (hs : s ∉ l) : Rising (insW l s) := by
  have key : ∀ n, n ≤ l.length → (∀ w ∈ l.drop n, bl s < bl w) → (∀ w ∈ l.take (downW l s n), bl w < bl s) ∧ ∀ w ∈ l.drop (downW l s n), bl s < bl w := by
    intro n
    induction n with
    | zero => intro _ h; exact ⟨by simp [downW], h⟩
    | succ n ih =>
      intro hn h
      have hlt : n < l.length := by omega
      have hg : l.getD n ⟨#[]⟩ = l[n] := by rw [List.getD_eq_getElem?_getD, List.getElem?_eq_getElem hlt]; rfl
      rw [downW, hg]
      by_cases c : ltW s l[n] = true
      · rw [if_pos c]
        refine ih (by omega) (fun w hw => ?_)
        rw [List.drop_eq_getElem_cons hlt] at hw
        rcases List.mem_cons.1 hw with rfl | hw
        · rw [ltW_bl] at c; simpa using c
        · exact h w hw
      · rw [if_neg c]
        refine ⟨fun w hw => ?_, h⟩
        have c' : ¬ bl s < bl l[n] := by rw [ltW_bl] at c; simpa using c
        have hne : l[n] ≠ s := fun e => hs (by rw [← e]; exact List.getElem_mem hlt)
        have c2 : bl l[n] < bl s := by
          rcases Decidable.em (bl l[n] < bl s) with h | h
          · exact h
          · exact absurd (bl_inj (List.le_antisymm (List.not_lt.1 c') (List.not_lt.1 h))) hne
        rw [wtake_one hlt] at hw
        rcases List.mem_append.1 hw with hw | hw
        · obtain ⟨j, hj, rfl⟩ := List.getElem_of_mem hw
          rw [List.length_take] at hj
          rw [List.getElem_take]
          have hp := List.pairwise_iff_getElem.1 hr j n (by rw [List.length_map]; omega) (by rw [List.length_map]; omega) (by omega)
          rw [List.getElem_map, List.getElem_map] at hp
          exact List.lt_trans hp c2
        · rw [List.mem_singleton.1 hw]; exact c2
  obtain ⟨k1, k2⟩ := key l.length (Nat.le_refl _) (by simp)
  exact rising_ins _ hr k1 k2
def rsorted_inv (l : List ByteArray) (s : ByteArray) (m : Nat) (st : St) : Prop := m ≤ l.length ∧ downW l s m = downW l s l.length ∧
  st = ⟨32, [(5, .val (.int .i64 m)), (1, .val (.string s)), (0, .rd 1 (strs l))], [], 64⟩
theorem rSorted_call {l : List ByteArray} {s : ByteArray} (hl : l.length ≤ 1000000) : CallOk Try.prog 28 [.rd 1 (strs l), .val (.string s)] [] (.rd 1 (strs (insW l s))) [] := by
  refine .of_exec Try.func28 rfl (enters_28) rfl rfl (Nat.le_of_ble_eq_true rfl) (fun n _ => rfl) ?_
  simp
  refine WPg.loopW (rsorted_inv l s) ⟨l.length, _, ?_, ⟨by simp, rfl, rfl⟩⟩ ?_
  · exact Wk.rn [] rfl (by simp) (by simp) (by simp)
  rintro m st ⟨h1, h2, rfl⟩
  obtain ⟨b1, b2, b3, b4, b5⟩ : m ≤ 140737488355327 ∧ (m + 1) * 16 ≤ 140737488355328 ∧ m * 16 ≤ 140737488355328 ∧ m + 1 + (l.length - m) ≤ 140737488355328 ∧ (m + 1 + (l.length - m)) * 16 ≤ 140737488355328 := by omega
  have b6 : min m l.length = m := by omega
  have b9 : m ≤ 140737488355328 := by omega
  have m1 : 1 ≤ maxLen := by decide
  cases m with
  | zero =>
    rw [downW] at h2
    have c1 : 1 + l.length ≤ 140737488355328 := by omega
    have c2 : (1 + l.length) * 16 ≤ 140737488355328 := by omega
    have e : insW l s = s :: l := by unfold insW; rw [← h2]; rfl
    have e2 : ∀ n, n = l.length + 1 → List.take n ([PV.val (Value.string s)] :: strs l) = strs (s :: l) := fun n hn => by
      have hl1 : ([PV.val (Value.string s)] :: strs l).length = l.length + 1 := by simp
      rw [List.take_of_length_le (by omega)]; rfl
    simp [m1, c1, c2]
    exact ⟨rfl, .frz [232] [4] (by simp) (by simp) (by simp; omega) (by simp) (by simp [e, e2 (1 + l.length) (by omega)])⟩
  | succ k =>
    have hk : k < l.length := by omega
    have hk' : (k : Int) < l.length := by omega
    have hwr : IntKind.i64.wrap (((k + 1 : Nat) : Int) - 1) = (k : Int) := by rw [w64 (by omega) (by omega)]; omega
    have hg : l.getD k ⟨#[]⟩ = l[k] := by rw [List.getD_eq_getElem?_getD, List.getElem?_eq_getElem hk]; rfl
    obtain ⟨x, hx⟩ : ∃ x, l[k] = x := ⟨_, rfl⟩
    have hgt := gtW_lt x s
    unfold gtW ltW at hgt
    rw [downW, hg, hx] at h2
    unfold ltW at h2
    by_cases c : Op.bytesLess s.toList x.toList = true
    · rw [if_pos c] at h2
      rw [c] at hgt
      have f1 : Op.bytesLess x.toList s.toList = false := by
        cases e : Op.bytesLess x.toList s.toList with
        | false => rfl
        | true => rw [e] at hgt; simp at hgt
      have f2 : ¬ x = s := by
        intro e
        rw [decide_eq_true e] at hgt; simp at hgt
      simp [hk, hk', hx, hwr, f1, f2, -Int.natCast_add]
      refine ⟨k, by omega, _, ?_, ⟨by omega, h2, rfl⟩⟩
      exact Wk.rn [] rfl (by simp) (by simp) (by simp)
    · rw [if_neg c] at h2
      have c' : Op.bytesLess s.toList x.toList = false := by simpa using c
      rw [c'] at hgt
      have f3 : (!Op.bytesLess x.toList s.toList && !decide (x = s)) = false := by
        cases e : Op.bytesLess x.toList s.toList with
        | true => rfl
        | false => rw [e] at hgt; simpa using hgt
      have d1 : k + 1 ≤ 140737488355327 := b1
      have d4 : k + 1 + 1 + (l.length - (k + 1)) ≤ 140737488355328 := b4
      have hdec : (Op.bytesLess x.toList s.toList = true) ∨ x = s := by
        cases e : Op.bytesLess x.toList s.toList with
        | true => exact .inl rfl
        | false => rw [e] at f3; exact .inr (by simpa using f3)
      have d5 : k ≤ 140737488355326 := by omega
      have e : List.take (k + 1 + 1) (List.take (k + 1) (List.take (k + 1) l) ++ [s]) ++ List.drop (k + 1) l = insW l s := by
        unfold insW
        rw [← h2, List.take_take, Nat.min_self, List.take_of_length_le (l := List.take (k + 1) l ++ [s]) (by simp; omega)]
      have e3 : k + 1 + 1 + (l.length - (k + 1)) = (insW l s).length := by rw [insW_length]; omega
      rcases hdec with hd | hd
      · simp [hk, hk', hx, hwr, hd, h1, b6, b9, d1, b2, b3, d4, b5, m1, d5, -Int.natCast_add]
        rw [e, e3]
        exact ⟨rfl, .frz [232] [4] (by simp) (by simp) (by simp) (by simp) (by simp)⟩
      · simp [hk, hk', hx, hwr, hd, h1, b6, b9, d1, b2, b3, d4, b5, m1, d5, -Int.natCast_add]
        rw [e, e3]
        exact ⟨rfl, .frz [232] [4] (by simp) (by simp) (by simp) (by simp) (by simp)⟩
def rset_inv (ws : List ByteArray) (m : Nat) (st : St) : Prop := ∃ (i : Nat) (out : List ByteArray), m = ws.length - i ∧ i ≤ ws.length ∧ Rising out ∧ (∀ w, w ∈ out ↔ w ∈ ws.take i) ∧ out.length ≤ i ∧
  st = ⟨39, [(7, .val (.int .i64 i)), (6, .rd 1 (strs out)), (4, .rd 1 (strs ws))], [], 64⟩
theorem rSet_call {s : ByteArray} : CallOk Try.prog 14 [.val (.string s)] [] (.tup [.rd 1 (strs (setV s).1), .val (.int .i64 (setV s).2)]) [] := by
  refine .of_exec Try.func14 rfl (enters_14) rfl rfl (Nat.le_of_ble_eq_true rfl) (fun n _ => rfl) ?_
  have hS := rSplit_call (s := s)
  by_cases h : 2000 < s.size
  · rw [if_pos h, if_pos h] at hS
    have e : setV s = ([], 2) := by unfold setV; rw [if_pos h]
    simp
    refine .plain hS (by simp) (by simp) ?_
    simp
    exact .wk _ (Wk.nilRd 1 [(2, .rd 1 []), (3, .val (.int .i64 2))] (by simp)) (by simp) (by simp [e, strs_nil])
  · rw [if_neg h, if_neg h] at hS
    have hl := wordsOf_length s
    obtain ⟨ws, hws⟩ : ∃ ws, wordsOf s = ws := ⟨_, rfl⟩
    have hset : setOf s = onceOf ws := by unfold setOf; rw [hws]
    rw [hws] at hS hl
    have hm : (1000000 : Nat) ≤ maxLen := by decide
    simp
    refine .plain hS (by simp) (by simp) ?_
    simp
    refine WPg.loopW (rset_inv ws) ⟨ws.length, _, ?_, ⟨0, [], by simp, by simp, by simp [Rising], by simp, by simp, rfl⟩⟩ ?_
    · exact (Wk.nilRd 1 [(7, .val (.int .i64 0)), (6, .rd 1 []), (4, .rd 1 (strs ws))] (by simp)).trans (Wk.rn [] rfl (by simp) (by simp [strs_nil]) (by simp))
    rintro m st ⟨i, out, h1, h2, h3, h4, h5, rfl⟩
    by_cases hi : i < ws.length
    · have hi' : (i : Int) < ws.length := by omega
      have hwr : IntKind.i64.wrap ((i : Int) + 1) = ((i + 1 : Nat) : Int) := by rw [w64 (by omega) (by omega)]; omega
      obtain ⟨x, hx⟩ : ∃ x, ws[i] = x := ⟨_, rfl⟩
      have htk : ws.take (i + 1) = ws.take i ++ [x] := by rw [wtake_one hi, hx]
      have hI := rIn_call (l := out) (s := x) (by omega)
      simp [hi, hi', hx]
      refine .plain hI (by simp) (by simp) ?_
      by_cases c : x ∈ out
      · have hin : inW out x = true := by unfold inW; simp [c]
        simp [hin]
        refine ⟨ws.length - (i + 1), by omega, _, ?_, ⟨i + 1, out, rfl, by omega, h3, fun w => ?_, by omega, rfl⟩⟩
        · rw [hwr]
          exact Wk.rn [] rfl (by simp) (by simp) (by simp)
        · rw [htk, List.mem_append, List.mem_singleton, h4]
          constructor
          · exact .inl
          · rintro (h | rfl)
            · exact h
            · exact (h4 w).1 c
      · have hin : inW out x = false := by unfold inW; simp [c]
        have hS := rSorted_call (l := out) (s := x) (by omega)
        simp [hin, hi, hi', hx]
        refine .plain hS (by simp) (by simp) ?_
        simp
        refine ⟨ws.length - (i + 1), by omega, _, ?_, ⟨i + 1, insW out x, rfl, by omega, insW_rising h3 c, fun w => ?_, by rw [insW_length]; omega, rfl⟩⟩
        · rw [hwr]
          exact Wk.rn [] rfl (by simp) (by simp) (by simp)
        · rw [insW_mem, htk, List.mem_append, List.mem_singleton, h4]
          exact Or.comm
    · obtain rfl : i = ws.length := by omega
      rw [List.take_length] at h4
      have ho : out = setOf s := by rw [hset]; exact onceOf_unique h3 h4
      rw [ho]
      by_cases h12 : 12 < (setOf s).length
      · have h12' : (12 : Int) < (setOf s).length := by omega
        have e : setV s = ([], 2) := by unfold setV; rw [if_neg h, if_pos h12]
        simp [h12']
        exact .wk _ (Wk.nilRd 1 [(2, .rd 1 []), (3, .val (.int .i64 2))] (by simp)) (by simp) (by simp [e, strs_nil])
      · have h12' : ¬ (12 : Int) < (setOf s).length := by omega
        have e : setV s = (setOf s, 0) := by unfold setV; rw [if_neg h, if_neg h12]
        simp [h12']
        exact .plain (by simp) (by simp [e])
end Go.Proofs.Ytipolblhiljoiaa.Sy
