/- Layer 17: the law ModelFinds. -/
import Derived.Test.YtipolblhiljoiaaC17F
import Derived.Test.YtipolblhiljoiaaC17D
namespace Go.Proofs.Ytipolblhiljoiaa.Sy
open Go Go.RowKit
set_option linter.unusedVariables false
set_option linter.unusedSimpArgs false
set_option maxRecDepth 10000
set_option maxHeartbeats 4000000
theorem text_words (t : List Int) : wordsOf (textW t) = (t.take 20).map wordAt := by
  refine words_items (xs := t.take 20) ?_
  unfold textW
  refine bytesW_strOf fun b hb => ?_
  obtain ⟨x, _, hx⟩ := List.mem_flatMap.1 hb
  unfold item at hx
  rcases List.mem_append.1 hx with h | h
  · exact bytesW_byte _ b h
  · exact bytesW_byte _ b h
theorem text_size (t : List Int) : (textW t).size ≤ 440 := by
  have h := items_size (t.take 20)
  unfold textW
  rw [strOf_size]
  rw [List.length_take] at h
  omega
theorem set_text (t : List Int) : setV (textW t) = (setOf (textW t), 0) := by
  have h1 := text_size t
  have h2 : (setOf (textW t)).length ≤ 9 := setOf_nine fun w hw => by
    rw [text_words] at hw
    obtain ⟨x, _, rfl⟩ := List.mem_map.1 hw
    exact wordAt_mem x
  exact setV_small (by omega) (by omega)
/-- A document put in, replaced, taken away again. -/
structure FindsI (l1 a b c : List DocW) (n : Int) (xs ys : List ByteArray) : Prop where
  ra : rightD a = true
  rb : rightD b = true
  rc : rightD c = true
  same : c = l1
  fa : ∀ w, n ∈ allM a [w] ↔ w ∈ xs
  fb : ∀ w, n ∈ allM b [w] ↔ w ∈ ys
  fc : ∀ w, n ∉ allM c [w]
theorem do_finds {l0 : List DocW} (h0 : rightD l0 = true) (hlen : l0.length ≤ 20) {n : Int} (hn : 0 ≤ n ∧ n ≤ 8) (t u : List Int) :
    ((doM l0 2 n ⟨#[]⟩).2.2 = 0 ∨ (doM l0 2 n ⟨#[]⟩).2.2 = 22) ∧
    ∃ l1 a b c, (doM l0 2 n ⟨#[]⟩).1 = l1 ∧ (doM l1 1 n (textW t)).1 = a ∧ (doM l1 1 n (textW t)).2.2 = 0 ∧ (doM a 3 n (textW u)).1 = b ∧ (doM a 3 n (textW u)).2.2 = 0 ∧ (doM b 2 n ⟨#[]⟩).1 = c ∧ (doM b 2 n ⟨#[]⟩).2.2 = 0 ∧
      rightD l1 = true ∧ FindsI l1 a b c n (setOf (textW t)) (setOf (textW u)) := by
  have hid : 0 ≤ n ∧ n ≤ 1073741824 := by omega
  obtain ⟨e1, m1⟩ := do_chg h0 (k := 2) (id := n) (s := ⟨#[]⟩) (by omega) hid (by omega)
  have r1 := do_right h0 2 n ⟨#[]⟩
  have n1 := do_len (l := l0) (k := 2) (id := n) (s := ⟨#[]⟩)
  have hx := set_text t
  have hy := set_text u
  have x0 : ∀ has, errM has 2 ⟨#[]⟩ = if has = true then 0 else 22 := fun has => by unfold errM; rw [if_pos rfl]
  have x1 : ∀ has, errM has 1 (textW t) = if has = true then 21 else 0 := fun has => by unfold errM; rw [hx]; simp
  have x2 : ∀ has, errM has 3 (textW u) = if has = true then 0 else 22 := fun has => by unfold errM; rw [hy]; simp
  rw [x0] at e1
  simp only [x0] at m1
  refine ⟨by rw [e1]; split <;> simp, (doM l0 2 n ⟨#[]⟩).1, _, _, _, rfl, rfl, ?_, rfl, ?_, rfl, ?_, r1, ?_⟩
  all_goals
    have hh : hasD (doM l0 2 n ⟨#[]⟩).1 n = false := by
      cases c : hasD (doM l0 2 n ⟨#[]⟩).1 n with
      | false => rfl
      | true =>
        obtain ⟨d, hd, e⟩ := has_iff.1 c
        rw [m1] at hd
        cases c2 : hasD l0 n with
        | true =>
          rw [c2, if_pos rfl, if_pos rfl] at hd
          rcases hd with hd | hd
          · exact absurd e hd.1
          · exact absurd rfl hd.1
        | false =>
          rw [c2] at hd
          simp at hd
          exact absurd e (has_false c2 d hd)
    generalize (doM l0 2 n ⟨#[]⟩).1 = l1 at *
    obtain ⟨e2, m2⟩ := do_chg r1 (k := 1) (id := n) (s := textW t) (by omega) hid (by omega)
    have r2 := do_right r1 1 n (textW t)
    have n2 := do_len (l := l1) (k := 1) (id := n) (s := textW t)
    rw [hh, x1, if_neg (by simp)] at e2
    simp only [hh, x1, hx] at m2
    simp only [Bool.false_eq_true, if_false, if_true] at m2
  · exact e2
  all_goals
    have hh2 : hasD (doM l1 1 n (textW t)).1 n = true := has_iff.2 ⟨⟨n, setOf (textW t)⟩, (m2 _).2 (.inr ⟨by decide, rfl⟩), rfl⟩
    generalize (doM l1 1 n (textW t)).1 = a at *
    obtain ⟨e3, m3⟩ := do_chg r2 (k := 3) (id := n) (s := textW u) (by omega) hid (by omega)
    have r3 := do_right r2 3 n (textW u)
    have n3 := do_len (l := a) (k := 3) (id := n) (s := textW u)
    rw [hh2, x2, if_pos rfl] at e3
    simp only [hh2, x2, hy] at m3
    simp only [if_true] at m3
  · exact e3
  all_goals
    have hh3 : hasD (doM a 3 n (textW u)).1 n = true := has_iff.2 ⟨⟨n, setOf (textW u)⟩, (m3 _).2 (.inr ⟨by decide, rfl⟩), rfl⟩
    generalize (doM a 3 n (textW u)).1 = b at *
    obtain ⟨e4, m4⟩ := do_chg r3 (k := 2) (id := n) (s := ⟨#[]⟩) (by omega) hid (by omega)
    have r4 := do_right r3 2 n ⟨#[]⟩
    rw [hh3, x0, if_pos rfl] at e4
    simp only [hh3, x0] at m4
    simp only [if_true] at m4
  · exact e4
  generalize (doM b 2 n ⟨#[]⟩).1 = c at *
  have hnf := has_false hh
  refine ⟨r2, r3, r4, ?_, fun w => ?_, fun w => ?_, fun w hw => ?_⟩
  · refine sort_ext (right_sort r4) (right_sort r1) fun d => ?_
    rw [m4, m3, m2]
    constructor
    · rintro (⟨g1, ⟨_, g2 | g2⟩ | g2⟩ | g2)
      · exact g2.2
      · exact absurd (by rw [g2.2]) g1
      · exact absurd (by rw [g2.2]) g1
      · exact absurd rfl g2.1
    · intro g
      exact .inl ⟨hnf d g, .inl ⟨hnf d g, .inl ⟨hnf d g, g⟩⟩⟩
  · rw [mem_all (right_sort r2)]
    constructor
    · rintro ⟨d, hd, e, hw⟩
      rw [m2] at hd
      rcases hd with hd | hd
      · exact absurd e hd.1
      · have := hw w (by simp)
        rw [hd.2] at this; exact this
    · intro hw
      exact ⟨_, (m2 _).2 (.inr ⟨by decide, rfl⟩), rfl, fun v hv => by rw [List.mem_singleton.1 hv]; exact hw⟩
  · rw [mem_all (right_sort r3)]
    constructor
    · rintro ⟨d, hd, e, hw⟩
      rw [m3] at hd
      rcases hd with hd | hd
      · exact absurd e hd.1
      · have := hw w (by simp)
        rw [hd.2] at this; exact this
    · intro hw
      exact ⟨_, (m3 _).2 (.inr ⟨by decide, rfl⟩), rfl, fun v hv => by rw [List.mem_singleton.1 hv]; exact hw⟩
  · rw [mem_all (right_sort r4)] at hw
    obtain ⟨d, hd, e, _⟩ := hw
    rw [m4] at hd
    rcases hd with hd | hd
    · exact absurd e hd.1
    · exact absurd rfl hd.1
def findsR (a b c : List DocW) (n : Int) (xs ys : List ByteArray) (k : Nat) : List (Nat × PV) :=
  [(26, .val (.int .i64 k)), (24, .rd 1 (strs ys)), (22, .rd 1 (strs xs)), (19, .rd 2 (rowsD c)), (16, .rd 2 (rowsD b)), (14, .rd 2 (rowsD a)), (11, .val (.int .i64 n)), (9, .val (.bool true))]
attribute [simp] findsR
def finds_k (a b c : List DocW) (n : Int) (xs ys : List ByteArray) (m : Nat) (st : St) : Prop := ∃ k : Nat, m = 9 - k ∧ k ≤ 9 ∧ st = ⟨211, findsR a b c n xs ys k, [], 64⟩
def finds_i (a b c : List DocW) (n : Int) (xs ys : List ByteArray) (k : Nat) (w : ByteArray) (m : Nat) (st : St) : Prop := ∃ i : Nat, m = 3 - i ∧ i ≤ 3 ∧
  st = ⟨211, (124, .val (.int .i64 i)) :: (123, .val (.int .i64 3)) :: (122, .sl 64 1 0 3) :: (27, .val (.string w)) :: findsR a b c n xs ys k, [(64, ⟨25, 1, [[.rd 2 (rowsD a)], [.rd 2 (rowsD b)], [.rd 2 (rowsD c)]], .cells⟩)], 72⟩
def finds_j (a b c : List DocW) (n : Int) (xs ys : List ByteArray) (k : Nat) (w : ByteArray) (i : Nat) (D : List DocW) (f : List Int) (m : Nat) (st : St) : Prop := ∃ j : Nat, m = f.length - j ∧ j ≤ f.length ∧
  st = ⟨211, (34, .val (.int .i64 j)) :: (33, .val (.bool (decide (n ∈ f.take j)))) :: (32, .val (.int .i64 0)) :: (31, .rd 1 (intsR f)) :: (29, .rd 2 (rowsD D)) :: (28, .val (.int .i64 i)) :: (124, .val (.int .i64 i)) :: (123, .val (.int .i64 3)) :: (122, .sl 64 1 0 3) :: (27, .val (.string w)) :: findsR a b c n xs ys k,
    [(64, ⟨25, 1, [[.rd 2 (rowsD a)], [.rd 2 (rowsD b)], [.rd 2 (rowsD c)]], .cells⟩)], 72⟩
theorem finds_call {rs : List RawW} {id : Int} {t u : List Int} (hl : rs.length ≤ maxLen) (h : ∀ r ∈ rs, RawIn r) (h1 : isI64 id) (h2 : t.length ≤ maxLen ∧ ∀ x ∈ t, isI64 x) (h3 : u.length ≤ maxLen ∧ ∀ x ∈ u, isI64 x) :
    CallOk Try.prog 3 [.rd 3 (rowsN rawR rs), .val (.int .i64 id), .rd 1 (intsR t), .rd 1 (intsR u)] [] (.val (.bool true)) [] := by
  refine .of_exec Try.func3 rfl (enters_3) rfl rfl (Nat.le_of_ble_eq_true rfl) (fun n _ => rfl) ?_
  have hD := Docs_call hl h
  have hR := docs_right rs
  have hlen := docs_len rs
  generalize docsV rs = L at *
  have hp := pick17_call (c := id) (n := 9) h1 (by omega)
  have hn := pickI_range (c := id) (n := 9) (by omega)
  generalize pickI id 9 = n at *
  have T1 := Text_call h2.1 h2.2
  have T2 := Text_call h3.1 h3.2
  obtain ⟨e0, l1, a, b, c, q1, q2, q3, q4, q5, q6, q7, q8, I⟩ := do_finds hR hlen (n := n) (by omega) t u
  have d0 := mDo_call (right_in hR) (k := 2) (id := n) (s := ⟨#[]⟩)
  have d1 := mDo_call (right_in q8) (k := 1) (id := n) (s := textW t)
  have d2 := mDo_call (right_in I.ra) (k := 3) (id := n) (s := textW u)
  have d3 := mDo_call (right_in I.rb) (k := 2) (id := n) (s := ⟨#[]⟩)
  have S1 := rSet_call (s := textW t)
  have S2 := rSet_call (s := textW u)
  rw [set_text] at S1 S2
  rw [q1] at d0
  rw [q2, q3] at d1
  rw [q4, q5] at d2
  rw [q6, q7] at d3
  have hz1 : (setOf (textW t)).length ≤ 12 := by have := setV_size (textW t); rwa [set_text] at this
  have hz2 : (setOf (textW u)).length ≤ 12 := by have := setV_size (textW u); rwa [set_text] at this
  simp only at S1 S2
  generalize (doM L 2 n ⟨#[]⟩).2.2 = ee at *
  generalize (doM L 2 n ⟨#[]⟩).2.1 = f0 at *
  generalize (doM l1 1 n (textW t)).2.1 = f1 at *
  generalize (doM a 3 n (textW u)).2.1 = f2 at *
  generalize (doM b 2 n ⟨#[]⟩).2.1 = f3 at *
  clear q1 q2 q3 q4 q5 q6 q7
  generalize setOf (textW t) = xs at *
  generalize setOf (textW u) = ys at *
  have hS := rSame_call (right_in I.rc) (right_in q8)
  have eS : eqD c l1 = true := by simp [eqD, I.same]
  rw [eS] at hS
  generalize textW t = tx at *
  generalize textW u = ux at *
  have m3 : 3 ≤ maxLen := by decide
  simp
  refine .plain awake17_call (by simp) (by simp) ?_
  simp
  refine .plain hD (by simp) (by simp) ?_
  simp
  refine .plain hp (by simp) (by simp) ?_
  simp
  refine .plain d0 (by simp) (by simp) ?_
  have hee : (!decide (ee = 0) && !decide (ee = 22)) = false := by
    rcases e0 with rfl | rfl <;> rfl
  simp [hee]
  refine callK.plain T1 (by simp) (by simp) ?_
  simp
  refine .plain d1 (by simp) (by simp) ?_
  simp
  refine callK.plain T2 (by simp) (by simp) ?_
  simp
  refine .plain d2 (by simp) (by simp) ?_
  simp
  refine .plain d3 (by simp) (by simp) ?_
  simp
  refine .plain hS (by simp) (by simp) ?_
  simp
  refine callK.plain T1 (by simp) (by simp) ?_
  simp
  refine .plain S1 (by simp) (by simp) ?_
  simp
  refine callK.plain T2 (by simp) (by simp) ?_
  simp
  refine .plain S2 (by simp) (by simp) ?_
  simp
  refine WPg.loopW (finds_k a b c n xs ys) ⟨9, _, ?_, ⟨0, by simp, by simp, rfl⟩⟩ ?_
  · exact Wk.rn [] rfl (by simp) (by simp) (by simp)
  rintro m st ⟨k, g1, g2, rfl⟩
  by_cases hk : k < 9
  · have hk' : (k : Int) < 9 := by omega
    have hwk : IntKind.i64.wrap ((k : Int) + 1) = ((k + 1 : Nat) : Int) := by rw [w64 (by omega) (by omega)]; omega
    have hW := Word_call (n := k) (by unfold isI64; omega)
    have hgw := good_at k
    generalize wordAt k = w at *
    have hset := set_one hgw
    simp [hk']
    refine .plain hW (by simp) (by simp) ?_
    simp [m3]
    refine WPg.loopW (finds_i a b c n xs ys k w) ⟨3, _, ?_, ⟨0, by simp, by simp, rfl⟩⟩ ?_
    · exact Wk.rn [(128, 64)] rfl (by simp) (by simp) (by simp)
    rintro m2 st2 ⟨i, g3, g4, rfl⟩
    by_cases hi : i < 3
    · have hc : i = 0 ∨ i = 1 ∨ i = 2 := by omega
      rcases hc with rfl | rfl | rfl
      · have dS := mDo_call (right_in I.ra) (k := 4) (id := 0) (s := w)
        rw [do_search I.ra (by rw [hset]) (by rw [hset]; simp), hset] at dS
        have hlf := all_len (l := a) (ws := [w])
        have hris := all_rising (right_sort I.ra) [w]
        have hmem := fun m => mem_all (right_sort I.ra) (ws := [w]) (n := m)
        have hF := fun m => find_call (right_in I.ra) (id := m)
        have hfD := I.fa w
        have h40 := (right_facts17 I.ra).1
        simp only at dS
        generalize allM a [w] = f at *
        simp
        refine .plain dS (by simp) (by simp) ?_
        simp
        refine WPg.loopW (finds_j a b c n xs ys k w 0 a f) ⟨f.length, _, ?_, ⟨0, by simp, by simp, rfl⟩⟩ ?_
        · exact Wk.rn [(64, 64)] rfl (by simp) (by simp) (by simp)
        rintro m3 st3 ⟨j, g5, g6, rfl⟩
        by_cases hj : j < f.length
        · have hj' : (j : Int) < f.length := by omega
          have hfn : f ≠ [] := by rintro rfl; simp at hj
          have hwj : IntKind.i64.wrap ((j : Int) + 1) = ((j + 1 : Nat) : Int) := by rw [w64 (by omega) (by omega)]; omega
          obtain ⟨x, hx⟩ : ∃ x, f[j] = x := ⟨_, rfl⟩
          obtain ⟨d, hd, hdx, hdw⟩ := (hmem x).1 (by rw [← hx]; exact List.getElem_mem hj)
          have hFx := hF x
          rw [← hdx, get_mem (right_sort I.ra) hd, hdx] at hFx
          have hdl := (docOk_facts ((right_facts17 I.ra).2 d hd)).2.2.1
          have hIn := rIn_call (l := d.ws) (s := w) (by unfold maxLen; omega)
          rw [show inW d.ws w = true by simp [inW]; exact hdw w (by simp)] at hIn
          have htk : decide (n ∈ f.take (j + 1)) = (decide (n ∈ f.take j) || decide (x = n)) := by
            rw [wtake_one hj, hx]
            simp [eq_comm]
          have hnx : (decide (n ∈ f.take j) = true ∧ decide (n ∈ f.take (j + 1)) = true) ∨ (decide (n ∈ f.take j) = false ∧ decide (n ∈ f.take (j + 1)) = decide (x = n)) := by
            cases hb : decide (n ∈ f.take j) <;> simp [htk, hb]
          generalize decide (n ∈ f.take j) = y at *
          rcases hnx with ⟨rfl, hy⟩ | ⟨rfl, hy⟩
          · simp [hj, hj', hfn, hx]
            refine .plain hFx (by simp) (by simp) ?_
            by_cases hj0 : j = 0
            · have hz0 : ¬ 0 < j := by omega
              simp [hj, hj', hfn, hx, hz0]
              refine callT.plain hIn (by simp) (by simp) ?_
              simp [hj, hj', hfn, hx, hz0]
              refine ⟨rfl, f.length - (j + 1), by omega, _, ?_, ⟨j + 1, rfl, by omega, rfl⟩⟩
              rw [hwj, hy]
              exact Wk.rn [(64, 64)] rfl (by simp) (by simp) (by simp)
            · have hz0 : 0 < j := by omega
              have hwm : IntKind.i64.wrap ((j : Int) - 1) = ((j - 1 : Nat) : Int) := by rw [w64 (by omega) (by omega)]; omega
              have hjm : j - 1 < f.length := by omega
              obtain ⟨z, hz⟩ : ∃ z, f[j - 1] = z := ⟨_, rfl⟩
              have hzx : ¬ x ≤ z := by
                have := List.pairwise_iff_getElem.1 hris (j - 1) j hjm hj (by omega)
                rw [hz, hx] at this; omega
              simp [hj, hj', hfn, hx, hz0]
              refine callT.plain hIn (by simp) (by simp) ?_
              simp [hj, hj', hfn, hx, hz0, hwm, hjm, hz, hzx]
              refine ⟨rfl, f.length - (j + 1), by omega, _, ?_, ⟨j + 1, rfl, by omega, rfl⟩⟩
              rw [hwj, hy]
              exact Wk.rn [(64, 64)] rfl (by simp) (by simp) (by simp)
          · simp [hj, hj', hfn, hx]
            refine .plain hFx (by simp) (by simp) ?_
            by_cases hj0 : j = 0
            · have hz0 : ¬ 0 < j := by omega
              simp [hj, hj', hfn, hx, hz0]
              refine callT.plain hIn (by simp) (by simp) ?_
              simp [hj, hj', hfn, hx, hz0]
              refine ⟨rfl, f.length - (j + 1), by omega, _, ?_, ⟨j + 1, rfl, by omega, rfl⟩⟩
              rw [hwj, hy]
              exact Wk.rn [(64, 64)] rfl (by simp) (by simp) (by simp)
            · have hz0 : 0 < j := by omega
              have hwm : IntKind.i64.wrap ((j : Int) - 1) = ((j - 1 : Nat) : Int) := by rw [w64 (by omega) (by omega)]; omega
              have hjm : j - 1 < f.length := by omega
              obtain ⟨z, hz⟩ : ∃ z, f[j - 1] = z := ⟨_, rfl⟩
              have hzx : ¬ x ≤ z := by
                have := List.pairwise_iff_getElem.1 hris (j - 1) j hjm hj (by omega)
                rw [hz, hx] at this; omega
              simp [hj, hj', hfn, hx, hz0]
              refine callT.plain hIn (by simp) (by simp) ?_
              simp [hj, hj', hfn, hx, hz0, hwm, hjm, hz, hzx]
              refine ⟨rfl, f.length - (j + 1), by omega, _, ?_, ⟨j + 1, rfl, by omega, rfl⟩⟩
              rw [hwj, hy]
              exact Wk.rn [(64, 64)] rfl (by simp) (by simp) (by simp)
        obtain rfl : j = f.length := by omega
        simp only [List.take_length]
        have hxw := I.fa w
        have hIx := rIn_call (l := xs) (s := w) (by unfold maxLen; omega)
        by_cases hw : w ∈ xs
        · have e1 : inW xs w = true := by simp [inW, hw]
          have e2 : decide (n ∈ f) = true := by simpa using hfD.2 hw
          rw [e1] at hIx
          simp [e2]
          refine callK.plain hIx (by simp) (by simp) ?_
          simp
          have hwi : IntKind.i64.wrap 1 = 1 := by decide
          refine ⟨2, by omega, _, ?_, ⟨1, rfl, by omega, rfl⟩⟩
          exact Wk.rn [(64, 64)] rfl (by simp) (by simp [hwi]) (by simp)
        · have e1 : inW xs w = false := by simp [inW, hw]
          have e2 : decide (n ∈ f) = false := by simpa using fun h => hw (hfD.1 h)
          rw [e1] at hIx
          simp [e2]
          refine callK.plain hIx (by simp) (by simp) ?_
          simp
          have hwi : IntKind.i64.wrap 1 = 1 := by decide
          refine ⟨2, by omega, _, ?_, ⟨1, rfl, by omega, rfl⟩⟩
          exact Wk.rn [(64, 64)] rfl (by simp) (by simp [hwi]) (by simp)
      · have dS := mDo_call (right_in I.rb) (k := 4) (id := 0) (s := w)
        rw [do_search I.rb (by rw [hset]) (by rw [hset]; simp), hset] at dS
        have hlf := all_len (l := b) (ws := [w])
        have hris := all_rising (right_sort I.rb) [w]
        have hmem := fun m => mem_all (right_sort I.rb) (ws := [w]) (n := m)
        have hF := fun m => find_call (right_in I.rb) (id := m)
        have hfD := I.fb w
        have h40 := (right_facts17 I.rb).1
        simp only at dS
        generalize allM b [w] = f at *
        simp
        refine .plain dS (by simp) (by simp) ?_
        simp
        refine WPg.loopW (finds_j a b c n xs ys k w 1 b f) ⟨f.length, _, ?_, ⟨0, by simp, by simp, rfl⟩⟩ ?_
        · exact Wk.rn [(64, 64)] rfl (by simp) (by simp) (by simp)
        rintro m3 st3 ⟨j, g5, g6, rfl⟩
        by_cases hj : j < f.length
        · have hj' : (j : Int) < f.length := by omega
          have hfn : f ≠ [] := by rintro rfl; simp at hj
          have hwj : IntKind.i64.wrap ((j : Int) + 1) = ((j + 1 : Nat) : Int) := by rw [w64 (by omega) (by omega)]; omega
          obtain ⟨x, hx⟩ : ∃ x, f[j] = x := ⟨_, rfl⟩
          obtain ⟨d, hd, hdx, hdw⟩ := (hmem x).1 (by rw [← hx]; exact List.getElem_mem hj)
          have hFx := hF x
          rw [← hdx, get_mem (right_sort I.rb) hd, hdx] at hFx
          have hdl := (docOk_facts ((right_facts17 I.rb).2 d hd)).2.2.1
          have hIn := rIn_call (l := d.ws) (s := w) (by unfold maxLen; omega)
          rw [show inW d.ws w = true by simp [inW]; exact hdw w (by simp)] at hIn
          have htk : decide (n ∈ f.take (j + 1)) = (decide (n ∈ f.take j) || decide (x = n)) := by
            rw [wtake_one hj, hx]
            simp [eq_comm]
          have hnx : (decide (n ∈ f.take j) = true ∧ decide (n ∈ f.take (j + 1)) = true) ∨ (decide (n ∈ f.take j) = false ∧ decide (n ∈ f.take (j + 1)) = decide (x = n)) := by
            cases hb : decide (n ∈ f.take j) <;> simp [htk, hb]
          generalize decide (n ∈ f.take j) = y at *
          rcases hnx with ⟨rfl, hy⟩ | ⟨rfl, hy⟩
          · simp [hj, hj', hfn, hx]
            refine .plain hFx (by simp) (by simp) ?_
            by_cases hj0 : j = 0
            · have hz0 : ¬ 0 < j := by omega
              simp [hj, hj', hfn, hx, hz0]
              refine callT.plain hIn (by simp) (by simp) ?_
              simp [hj, hj', hfn, hx, hz0]
              refine ⟨rfl, f.length - (j + 1), by omega, _, ?_, ⟨j + 1, rfl, by omega, rfl⟩⟩
              rw [hwj, hy]
              exact Wk.rn [(64, 64)] rfl (by simp) (by simp) (by simp)
            · have hz0 : 0 < j := by omega
              have hwm : IntKind.i64.wrap ((j : Int) - 1) = ((j - 1 : Nat) : Int) := by rw [w64 (by omega) (by omega)]; omega
              have hjm : j - 1 < f.length := by omega
              obtain ⟨z, hz⟩ : ∃ z, f[j - 1] = z := ⟨_, rfl⟩
              have hzx : ¬ x ≤ z := by
                have := List.pairwise_iff_getElem.1 hris (j - 1) j hjm hj (by omega)
                rw [hz, hx] at this; omega
              simp [hj, hj', hfn, hx, hz0]
              refine callT.plain hIn (by simp) (by simp) ?_
              simp [hj, hj', hfn, hx, hz0, hwm, hjm, hz, hzx]
              refine ⟨rfl, f.length - (j + 1), by omega, _, ?_, ⟨j + 1, rfl, by omega, rfl⟩⟩
              rw [hwj, hy]
              exact Wk.rn [(64, 64)] rfl (by simp) (by simp) (by simp)
          · simp [hj, hj', hfn, hx]
            refine .plain hFx (by simp) (by simp) ?_
            by_cases hj0 : j = 0
            · have hz0 : ¬ 0 < j := by omega
              simp [hj, hj', hfn, hx, hz0]
              refine callT.plain hIn (by simp) (by simp) ?_
              simp [hj, hj', hfn, hx, hz0]
              refine ⟨rfl, f.length - (j + 1), by omega, _, ?_, ⟨j + 1, rfl, by omega, rfl⟩⟩
              rw [hwj, hy]
              exact Wk.rn [(64, 64)] rfl (by simp) (by simp) (by simp)
            · have hz0 : 0 < j := by omega
              have hwm : IntKind.i64.wrap ((j : Int) - 1) = ((j - 1 : Nat) : Int) := by rw [w64 (by omega) (by omega)]; omega
              have hjm : j - 1 < f.length := by omega
              obtain ⟨z, hz⟩ : ∃ z, f[j - 1] = z := ⟨_, rfl⟩
              have hzx : ¬ x ≤ z := by
                have := List.pairwise_iff_getElem.1 hris (j - 1) j hjm hj (by omega)
                rw [hz, hx] at this; omega
              simp [hj, hj', hfn, hx, hz0]
              refine callT.plain hIn (by simp) (by simp) ?_
              simp [hj, hj', hfn, hx, hz0, hwm, hjm, hz, hzx]
              refine ⟨rfl, f.length - (j + 1), by omega, _, ?_, ⟨j + 1, rfl, by omega, rfl⟩⟩
              rw [hwj, hy]
              exact Wk.rn [(64, 64)] rfl (by simp) (by simp) (by simp)
        obtain rfl : j = f.length := by omega
        simp only [List.take_length]
        have hxw := I.fb w
        have hIy := rIn_call (l := ys) (s := w) (by unfold maxLen; omega)
        by_cases hw : w ∈ ys
        · have e1 : inW ys w = true := by simp [inW, hw]
          have e2 : decide (n ∈ f) = true := by simpa using hfD.2 hw
          rw [e1] at hIy
          simp [e2]
          refine callK.plain hIy (by simp) (by simp) ?_
          simp
          have hwi : IntKind.i64.wrap 2 = 2 := by decide
          refine ⟨1, by omega, _, ?_, ⟨2, rfl, by omega, rfl⟩⟩
          exact Wk.rn [(64, 64)] rfl (by simp) (by simp [hwi]) (by simp)
        · have e1 : inW ys w = false := by simp [inW, hw]
          have e2 : decide (n ∈ f) = false := by simpa using fun h => hw (hfD.1 h)
          rw [e1] at hIy
          simp [e2]
          refine callK.plain hIy (by simp) (by simp) ?_
          simp
          have hwi : IntKind.i64.wrap 2 = 2 := by decide
          refine ⟨1, by omega, _, ?_, ⟨2, rfl, by omega, rfl⟩⟩
          exact Wk.rn [(64, 64)] rfl (by simp) (by simp [hwi]) (by simp)
      · have dS := mDo_call (right_in I.rc) (k := 4) (id := 0) (s := w)
        rw [do_search I.rc (by rw [hset]) (by rw [hset]; simp), hset] at dS
        have hlf := all_len (l := c) (ws := [w])
        have hris := all_rising (right_sort I.rc) [w]
        have hmem := fun m => mem_all (right_sort I.rc) (ws := [w]) (n := m)
        have hF := fun m => find_call (right_in I.rc) (id := m)
        have hfD := I.fc w
        have h40 := (right_facts17 I.rc).1
        simp only at dS
        generalize allM c [w] = f at *
        simp
        refine .plain dS (by simp) (by simp) ?_
        simp
        refine WPg.loopW (finds_j a b c n xs ys k w 2 c f) ⟨f.length, _, ?_, ⟨0, by simp, by simp, rfl⟩⟩ ?_
        · exact Wk.rn [(64, 64)] rfl (by simp) (by simp) (by simp)
        rintro m3 st3 ⟨j, g5, g6, rfl⟩
        by_cases hj : j < f.length
        · have hj' : (j : Int) < f.length := by omega
          have hfn : f ≠ [] := by rintro rfl; simp at hj
          have hwj : IntKind.i64.wrap ((j : Int) + 1) = ((j + 1 : Nat) : Int) := by rw [w64 (by omega) (by omega)]; omega
          obtain ⟨x, hx⟩ : ∃ x, f[j] = x := ⟨_, rfl⟩
          obtain ⟨d, hd, hdx, hdw⟩ := (hmem x).1 (by rw [← hx]; exact List.getElem_mem hj)
          have hFx := hF x
          rw [← hdx, get_mem (right_sort I.rc) hd, hdx] at hFx
          have hdl := (docOk_facts ((right_facts17 I.rc).2 d hd)).2.2.1
          have hIn := rIn_call (l := d.ws) (s := w) (by unfold maxLen; omega)
          rw [show inW d.ws w = true by simp [inW]; exact hdw w (by simp)] at hIn
          have htk : decide (n ∈ f.take (j + 1)) = (decide (n ∈ f.take j) || decide (x = n)) := by
            rw [wtake_one hj, hx]
            simp [eq_comm]
          have hnx : (decide (n ∈ f.take j) = true ∧ decide (n ∈ f.take (j + 1)) = true) ∨ (decide (n ∈ f.take j) = false ∧ decide (n ∈ f.take (j + 1)) = decide (x = n)) := by
            cases hb : decide (n ∈ f.take j) <;> simp [htk, hb]
          generalize decide (n ∈ f.take j) = y at *
          rcases hnx with ⟨rfl, hy⟩ | ⟨rfl, hy⟩
          · simp [hj, hj', hfn, hx]
            refine .plain hFx (by simp) (by simp) ?_
            by_cases hj0 : j = 0
            · have hz0 : ¬ 0 < j := by omega
              simp [hj, hj', hfn, hx, hz0]
              refine callT.plain hIn (by simp) (by simp) ?_
              simp [hj, hj', hfn, hx, hz0]
              refine ⟨rfl, f.length - (j + 1), by omega, _, ?_, ⟨j + 1, rfl, by omega, rfl⟩⟩
              rw [hwj, hy]
              exact Wk.rn [(64, 64)] rfl (by simp) (by simp) (by simp)
            · have hz0 : 0 < j := by omega
              have hwm : IntKind.i64.wrap ((j : Int) - 1) = ((j - 1 : Nat) : Int) := by rw [w64 (by omega) (by omega)]; omega
              have hjm : j - 1 < f.length := by omega
              obtain ⟨z, hz⟩ : ∃ z, f[j - 1] = z := ⟨_, rfl⟩
              have hzx : ¬ x ≤ z := by
                have := List.pairwise_iff_getElem.1 hris (j - 1) j hjm hj (by omega)
                rw [hz, hx] at this; omega
              simp [hj, hj', hfn, hx, hz0]
              refine callT.plain hIn (by simp) (by simp) ?_
              simp [hj, hj', hfn, hx, hz0, hwm, hjm, hz, hzx]
              refine ⟨rfl, f.length - (j + 1), by omega, _, ?_, ⟨j + 1, rfl, by omega, rfl⟩⟩
              rw [hwj, hy]
              exact Wk.rn [(64, 64)] rfl (by simp) (by simp) (by simp)
          · simp [hj, hj', hfn, hx]
            refine .plain hFx (by simp) (by simp) ?_
            by_cases hj0 : j = 0
            · have hz0 : ¬ 0 < j := by omega
              simp [hj, hj', hfn, hx, hz0]
              refine callT.plain hIn (by simp) (by simp) ?_
              simp [hj, hj', hfn, hx, hz0]
              refine ⟨rfl, f.length - (j + 1), by omega, _, ?_, ⟨j + 1, rfl, by omega, rfl⟩⟩
              rw [hwj, hy]
              exact Wk.rn [(64, 64)] rfl (by simp) (by simp) (by simp)
            · have hz0 : 0 < j := by omega
              have hwm : IntKind.i64.wrap ((j : Int) - 1) = ((j - 1 : Nat) : Int) := by rw [w64 (by omega) (by omega)]; omega
              have hjm : j - 1 < f.length := by omega
              obtain ⟨z, hz⟩ : ∃ z, f[j - 1] = z := ⟨_, rfl⟩
              have hzx : ¬ x ≤ z := by
                have := List.pairwise_iff_getElem.1 hris (j - 1) j hjm hj (by omega)
                rw [hz, hx] at this; omega
              simp [hj, hj', hfn, hx, hz0]
              refine callT.plain hIn (by simp) (by simp) ?_
              simp [hj, hj', hfn, hx, hz0, hwm, hjm, hz, hzx]
              refine ⟨rfl, f.length - (j + 1), by omega, _, ?_, ⟨j + 1, rfl, by omega, rfl⟩⟩
              rw [hwj, hy]
              exact Wk.rn [(64, 64)] rfl (by simp) (by simp) (by simp)
        obtain rfl : j = f.length := by omega
        simp only [List.take_length]
        have e2 : decide (n ∈ f) = false := by simpa using hfD
        simp [e2]
        have hwi : IntKind.i64.wrap 3 = 3 := by decide
        refine ⟨0, by omega, _, ?_, ⟨3, rfl, by omega, rfl⟩⟩
        exact Wk.rn [(64, 64)] rfl (by simp) (by simp [hwi]) (by simp)
    · obtain rfl : i = 3 := by omega
      simp
      refine ⟨9 - (k + 1), by omega, _, ?_, ⟨k + 1, rfl, by omega, rfl⟩⟩
      rw [hwk]
      exact Wk.rn [] rfl (by simp) (by simp) (by simp)
  · obtain rfl : k = 9 := by omega
    simp
    exact .plain (by simp) (by simp)
end Go.Proofs.Ytipolblhiljoiaa.Sy
