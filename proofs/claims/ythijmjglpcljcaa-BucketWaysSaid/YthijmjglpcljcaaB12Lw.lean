/- Layer 12: the law BucketWays. -/
import Derived.Test.YthijmjglpcljcaaB12aw
import Derived.Test.YthijmjglpcljcaaB12Wa
namespace Go.Proofs.Ythijmjglpcljcaa.Sy
open Go Go.RowKit
set_option linter.unusedVariables false
set_option linter.unusedSimpArgs false
set_option maxRecDepth 10000
set_option maxHeartbeats 4000000
def freeN (bs : List Bkt) : Nat := bs.countP fun b => decide (b.st = 0)
theorem freeN_take {bs : List Bkt} {i : Nat} {b : Bkt} (hi : i < bs.length) (hb : bs[i] = b) : freeN (bs.take (i + 1)) = freeN (bs.take i) + (if b.st = 0 then 1 else 0) := by
  unfold freeN
  rw [List.take_succ_eq_append_getElem hi, List.countP_append, List.countP_singleton, hb]
  simp
theorem freeN_sum : ∀ l : List Bkt, (∀ b ∈ l, b.st = 0 ∨ b.st = 1 ∨ b.st = 2) → freeN l + usedN l + goneN l = l.length
  | [], _ => rfl
  | b :: l, h => by
    have ih := freeN_sum l (fun x hx => h x (List.mem_cons_of_mem _ hx))
    unfold usedN goneN freeN at ih ⊢
    rw [List.countP_cons, List.countP_cons, List.countP_cons, List.length_cons, ← ih]
    rcases h b List.mem_cons_self with e | e | e <;> rw [e] <;> simp <;> omega
theorem free_quarter {s : Sto} (h : RightI s) : (s.bs.length : Int) ≤ 4 * freeN s.bs := by
  have := freeN_sum s.bs (fun b hb => by
    obtain ⟨j, hj, e⟩ := List.getElem_of_mem hb
    have := h.may j hj
    rw [atB_get hj, e] at this
    exact st_of_may this)
  have h1 := h.many
  have h2 := h.gone
  have h3 := h.load
  omega
theorem freeN_le (bs : List Bkt) : freeN bs ≤ bs.length := List.countP_le_length
theorem place_next {n home i : Nat} (hn : 0 < n) : placeN n home (i + 1) = (placeN n home i + 1) % n := by
  unfold placeN
  rw [Nat.mod_add_mod, Nat.add_assoc]
abbrev boxW (s : Sto) : List (List PV) := [[.rd 3 (rowsB s.bs), .val (.int .i64 s.many), .val (.int .i64 s.gone)]]
def ways_inv (raw : List Stp) (m : Nat) (st : St) : Prop := ∃ i s, m = raw.length - i ∧ i ≤ raw.length ∧ i ≤ 60 ∧ WaysI s i ∧
  st = ⟨139, [(6, .val (.int .i64 (i : Nat))), (5, .val (.int .i64 0)), (4, .ref 72 3 0 0), (3, .val (.bool true)), (0, .rd 3 (rows3 raw))], [(72, ⟨31, 3, boxW s, .cells⟩)], 80⟩
def ways_two (s : Sto) (m : Nat) (st : St) : Prop := ∃ j : Nat, m = s.bs.length - j ∧ j ≤ s.bs.length ∧
  st = ⟨139, [(10, .val (.int .i64 j)), (9, .val (.int .i64 (freeN (s.bs.take j)))), (8, .val (.int .i64 s.bs.length)), (4, .ref 72 3 0 0), (3, .val (.bool true))], [(72, ⟨31, 3, boxW s, .cells⟩)], 80⟩
def ways_three (s : Sto) (j f ip h : Nat) (m : Nat) (st : St) : Prop := ∃ q a : Nat, m = ip - q ∧ q ≤ ip ∧ a = placeN s.bs.length h q ∧
  st = ⟨139, [(12, .val (.int .i64 a)), (10, .val (.int .i64 j)), (9, .val (.int .i64 f)), (8, .val (.int .i64 s.bs.length)), (4, .ref 72 3 0 0), (3, .val (.bool true))], [(72, ⟨31, 3, boxW s, .cells⟩)], 80⟩
theorem ways_end {Q : Exit → St → Prop} {s : Sto} {t : Nat} (hs : WaysI s t) {n : Nat} (hn : n = s.bs.length) : True := trivial
theorem ways_call (raw : List Stp) (h64 : steps64 raw) (hl : raw.length ≤ 9223372036854775807) : CallOk Try.prog 7 [.rd 3 (rows3 raw)] [] (.val (.bool true)) [] := by
  refine .of_exec Try.func7 rfl (enters_7) rfl rfl (Nat.le_of_ble_eq_true rfl) (fun n _ => rfl) ?_
  simp
  refine .plain awake_call (by simp) (by simp) ?_
  simp
  refine .plain (new_call fresh8) (by simp) (by simp) ?_
  simp
  refine WPg.loopW (ways_inv raw) ⟨raw.length, _, ?_, ⟨0, freshS 8, by simp, by simp, by simp, ways_fresh, rfl⟩⟩ ?_
  · exact Wk.rn [(120, 72)] rfl (by simp) (by simp) (by simp)
  rintro m st ⟨i, s, g1, g2, g3, hs, rfl⟩
  have hr := right_small hs.right
  by_cases hi : i < raw.length ∧ i < 60
  · obtain ⟨hi, h60⟩ := hi
    have hi' : (i : Int) < raw.length := by omega
    have h60' : (i : Int) < 60 := by omega
    have hw : IntKind.i64.wrap ((i : Int) + 1) = ((i + 1 : Nat) : Int) := by rw [w64 (by omega) (by omega)]; omega
    obtain ⟨x, hx⟩ : ∃ x, raw[i] = x := ⟨_, rfl⟩
    obtain ⟨x1, x2, x3⟩ : isI64 x.1 ∧ isI64 x.2.1 ∧ isI64 x.2.2 := h64 x (by rw [← hx]; exact List.getElem_mem hi)
    simp [hi, hi', h60', hx]
    refine .plain (pick_call x1 (by omega)) (by simp) (by simp) ?_
    by_cases c : 0 < pickI x.1 3
    · have hp := ways_put hs h60 x.2.1 x.2.2
      have he := (put_40 hs.right hs.labs x.2.1 x.2.2).1
      have cp := put_call s (labI x.2.1) (cellI x.2.2) (by omega)
      rw [he] at cp
      obtain ⟨t, ht⟩ : ∃ t, t = (putS s (labI x.2.1) (cellI x.2.2)).1 := ⟨_, rfl⟩
      rw [← ht] at cp hp
      simp [c, hi, hi', hx]
      refine callT.plain (label_call x2) (by simp) (by simp) ?_
      simp [hi, hi', hx]
      refine callT.plain (cell_call x3) (by simp) (by simp) ?_
      simp
      refine callT.plain cp (by simp) (by simp) ?_
      simp
      refine ⟨rfl, raw.length - (i + 1), by omega, _, ?_, ⟨i + 1, t, rfl, by omega, by omega, hp, rfl⟩⟩
      rw [hw]
      exact Wk.rn [(72, 72)] rfl (by simp) (by simp) (by simp)
    · have hp := ways_del hs x.2.1
      have he := (del_40 hs.right hs.labs x.2.1).1
      have cp := del_call s (labI x.2.1) (by omega)
      rw [he] at cp
      obtain ⟨t, ht⟩ : ∃ t, t = (delS s (labI x.2.1)).1 := ⟨_, rfl⟩
      obtain ⟨b, hb⟩ : ∃ b, b = (delS s (labI x.2.1)).2.1 := ⟨_, rfl⟩
      rw [← ht, ← hb] at cp
      rw [← ht] at hp
      simp [c, hi, hi', hx]
      refine callT.plain (label_call x2) (by simp) (by simp) ?_
      simp
      refine callT.plain cp (by simp) (by simp) ?_
      simp
      refine ⟨rfl, raw.length - (i + 1), by omega, _, ?_, ⟨i + 1, t, rfl, by omega, by omega, hp, rfl⟩⟩
      rw [hw]
      exact Wk.rn [(72, 72)] rfl (by simp) (by simp) (by simp)
  · have hc : (decide (i < raw.length) && decide ((i : Int) < 60)) = false := by
      simp only [Bool.and_eq_false_imp, decide_eq_true_eq, decide_eq_false_iff_not]
      omega
    have hsl := hs.len
    have hq := free_quarter hs.right
    have hfl := freeN_le s.bs
    rcases hsl with e | e | e | e
    all_goals
      simp [hc, e]
      refine WPg.loopW (ways_two s) ⟨s.bs.length, _, ?_, ⟨0, by simp, by simp, rfl⟩⟩ ?_
      · exact Wk.rn [(72, 72)] rfl (by simp) (by simp [e, freeN]) (by simp)
      clear e
      rintro m st ⟨j, k1, k2, rfl⟩
      by_cases hj : j < s.bs.length
      · have hj' : (j : Int) < s.bs.length := by omega
        have hwj : IntKind.i64.wrap ((j : Int) + 1) = ((j + 1 : Nat) : Int) := by rw [w64 (by omega) (by omega)]; omega
        have hft := freeN_take hj rfl
        have hfj := freeN_le (s.bs.take (j + 1))
        rw [List.length_take] at hfj
        obtain ⟨b, hb⟩ : ∃ b, s.bs[j] = b := ⟨_, rfl⟩
        rw [hb] at hft
        by_cases c0 : b.st = 0
        · rw [if_pos c0] at hft
          have hwf : IntKind.i64.wrap ((freeN (s.bs.take j) : Int) + 1) = (freeN (s.bs.take (j + 1)) : Int) := by rw [w64 (by omega) (by omega)]; omega
          simp [hj, hj', hb, rowB, c0, hwf, hwj]
          refine ⟨s.bs.length - (j + 1), by omega, _, ?_, ⟨j + 1, rfl, by omega, rfl⟩⟩
          exact Wk.rn [(72, 72)] rfl (by simp) (by simp) (by simp)
        · rw [if_neg c0] at hft
          by_cases c1 : b.st = 1
          · have hu : (atB s.bs j).st = 1 := by rw [atB_get hj, hb]; exact c1
            have hla : (atB s.bs j).lab = b.lab := by rw [atB_get hj, hb]
            obtain ⟨ip, i1, i2, i3⟩ := hs.right.path j hj hu
            rw [hla] at i2 i3
            simp [hj, hj', hb, rowB, c0, c1, hwj]
            refine .plain (home_call b.lab (n := s.bs.length) ⟨by omega, by omega⟩) (by simp) (by simp) ?_
            have hh := homeI_range (s := b.lab) (n := s.bs.length) (by omega)
            have h00 : homeI b.lab s.bs.length = (placeN s.bs.length (homeN b.lab s.bs.length) 0 : Nat) := by
              unfold placeN homeN
              rw [Nat.add_zero, Nat.mod_eq_of_lt (by omega)]
              omega
            rw [h00]
            simp
            refine WPg.loopW (ways_three s j (freeN (s.bs.take (j + 1))) ip (homeN b.lab s.bs.length)) ⟨ip, _, ?_, ⟨0, _, by simp, by simp, rfl, rfl⟩⟩ ?_
            · exact Wk.rn [(72, 72)] rfl (by simp) (by simp [hft]) (by simp)
            rintro m st ⟨q, a, q1, q2, q3, rfl⟩
            have ha : a < s.bs.length := by rw [q3]; exact place_lt (by omega)
            by_cases hq' : a = j
            · subst hq'
              simp [hwj]
              refine ⟨s.bs.length - (a + 1), by omega, _, ?_, ⟨a + 1, rfl, by omega, rfl⟩⟩
              exact Wk.rn [(72, 72)] rfl (by simp) (by simp) (by simp)
            · have hne : q ≠ ip := fun e => hq' (by rw [q3, e, i2])
              have hst := i3 q (by omega)
              rw [← q3] at hst
              rw [atB_get ha] at hst
              have ha' : (a : Int) < s.bs.length := by omega
              have hn1 : ¬ (a : Int) = j := by omega
              have hn2 : ¬ (a : Int) < 0 := by omega
              have hn3 : ¬ (s.bs.length : Int) ≤ a := by omega
              have hnx : (IntKind.i64.wrap ((a : Int) + 1)).tmod (s.bs.length : Int) = (placeN s.bs.length (homeN b.lab s.bs.length) (q + 1) : Nat) := by
                rw [w64 (by omega) (by omega), Int.tmod_eq_emod_of_nonneg (by omega), place_next (by omega), ← q3]
                simp
              have hz : ¬ s.bs = [] := by intro e; rw [e] at ha; simp at ha
              simp [hq', hn1, hn2, hn3, ha, ha', hst, rowB, hnx, hz]
              refine ⟨ip - (q + 1), by omega, _, ?_, ⟨q + 1, _, rfl, by omega, rfl, rfl⟩⟩
              exact Wk.rn [(72, 72)] rfl (by simp) (by simp) (by simp)
          · simp [hj, hj', hb, rowB, c0, c1, hwj]
            refine ⟨s.bs.length - (j + 1), by omega, _, ?_, ⟨j + 1, rfl, by omega, rfl⟩⟩
            exact Wk.rn [(72, 72)] rfl (by simp) (by simp [hft]) (by simp)
      · obtain rfl : j = s.bs.length := by omega
        have hw4 : IntKind.i64.wrap (4 * (freeN s.bs : Int)) = 4 * freeN s.bs := w64 (by omega) (by omega)
        simp [hw4, hq]
        exact .plain (by simp) (by simp)
end Go.Proofs.Ythijmjglpcljcaa.Sy
