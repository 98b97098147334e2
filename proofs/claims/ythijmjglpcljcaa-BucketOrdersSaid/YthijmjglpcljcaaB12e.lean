/- Layer 12: Right. -/
import Derived.Test.YthijmjglpcljcaaB12d
namespace Go.Proofs.Ythijmjglpcljcaa.Sy
open Go Go.RowKit
set_option linter.unusedVariables false
set_option linter.unusedSimpArgs false
set_option maxRecDepth 10000
set_option maxHeartbeats 4000000
def usedN (bs : List Bkt) : Nat := bs.countP fun b => decide (b.st = 1)
def goneN (bs : List Bkt) : Nat := bs.countP fun b => decide (b.st = 2)
/-- What Right asks of the i-th bucket. -/
def goodAt (bs : List Bkt) (i : Nat) : Bool := mayB (bs.getD i .free) && (decide ((bs.getD i .free).st ≠ 1) || decide ((findB bs (bs.getD i .free).lab).1 = i))
def rightB (s : Sto) : Bool := sizeB s.bs.length && ((List.range s.bs.length).all (goodAt s.bs) && (decide ((usedN s.bs : Int) = s.many) && decide ((goneN s.bs : Int) = s.gone) && decide (4 * (s.many + s.gone) ≤ 3 * s.bs.length)))
def keysB (bs : List Bkt) : List ByteArray := (bs.filter fun b => decide (b.st = 1)).map (·.lab)
theorem keysB_length (bs : List Bkt) : (keysB bs).length = usedN bs := by simp [keysB, usedN, List.countP_eq_length_filter]
theorem usedN_le (bs : List Bkt) : usedN bs ≤ bs.length := List.countP_le_length
theorem goneN_le (bs : List Bkt) : goneN bs ≤ bs.length := List.countP_le_length
def rowsK (ks : List ByteArray) : List (List PV) := ks.map fun k => [.val (.string k), .un]
@[simp] theorem rowsK_length (ks : List ByteArray) : (rowsK ks).length = ks.length := by simp [rowsK]
@[simp] theorem rowsK_rn (π : Nat → Option Nat) (ks : List ByteArray) : (rowsK ks).map (List.map (rn0 π)) = rowsK ks := by
  unfold rowsK
  rw [List.map_map]
  exact List.map_congr_left fun k _ => by simp
theorem rowsK_snoc (ks : List ByteArray) (k : ByteArray) : rowsK (ks ++ [k]) = rowsK ks ++ [[.val (.string k), .un]] := by simp [rowsK]
theorem findP_rowsK {k : ByteArray} : ∀ {ks : List ByteArray} (i : Nat), k ∉ ks → findP .string (.val (.string k)) (rowsK ks) i = some none
  | [], _, _ => rfl
  | x :: ks, i, h => by
    have h1 : k ≠ x := fun e => h (by rw [e]; simp)
    have := findP_rowsK (ks := ks) (i + 1) (fun e => h (List.mem_cons_of_mem _ e))
    simp [rowsK, findP, keyD, h1] at this ⊢
    exact this
theorem usedN_take {bs : List Bkt} {i : Nat} {b : Bkt} (hi : i < bs.length) (hb : bs[i] = b) : usedN (bs.take (i + 1)) = usedN (bs.take i) + (if b.st = 1 then 1 else 0) := by
  rw [List.take_succ_eq_append_getElem hi, hb]
  simp [usedN, List.countP_append, List.countP_cons]
theorem goneN_take {bs : List Bkt} {i : Nat} {b : Bkt} (hi : i < bs.length) (hb : bs[i] = b) : goneN (bs.take (i + 1)) = goneN (bs.take i) + (if b.st = 2 then 1 else 0) := by
  rw [List.take_succ_eq_append_getElem hi, hb]
  simp [goneN, List.countP_append, List.countP_cons]
theorem keysB_take {bs : List Bkt} {i : Nat} {b : Bkt} (hi : i < bs.length) (hb : bs[i] = b) : keysB (bs.take (i + 1)) = keysB (bs.take i) ++ (if b.st = 1 then [b.lab] else []) := by
  rw [List.take_succ_eq_append_getElem hi, hb]
  by_cases h : b.st = 1 <;> simp [keysB, h]
/-- The label of a used one that is found at its place is new among the ones before it. -/
theorem keys_fresh {bs : List Bkt} {i : Nat} {b : Bkt} (hg : ∀ j, j < i → goodAt bs j = true) (hi : i < bs.length) (h2 : (findB bs b.lab).1 = i) : b.lab ∉ keysB (bs.take i) := by
  intro hmem
  obtain ⟨c, hc, e⟩ := List.mem_map.1 hmem
  obtain ⟨hc, hc1⟩ := List.mem_filter.1 hc
  obtain ⟨j, hj, hcj⟩ := List.mem_iff_getElem.1 hc
  rw [List.length_take] at hj
  have hj' : bs.getD j .free = c := by
    rw [List.getD_eq_getElem?_getD, List.getElem?_eq_getElem (by omega)]
    simpa using hcj
  have hgj := hg j (by omega)
  simp only [decide_eq_true_eq] at hc1
  rw [goodAt, hj'] at hgj
  simp [hc1, e] at hgj
  rw [hgj.2] at h2
  omega
theorem fin_eq {u g n : Nat} {many gone : Int} (hu : u ≤ n) (hg : g ≤ n) (hn : n < 1152921504606846976) :
    (decide ((u : Int) = many) && decide ((g : Int) = gone) && decide (IntKind.i64.wrap (4 * IntKind.i64.wrap (many + gone)) ≤ IntKind.i64.wrap (3 * (n : Int)))) = (decide ((u : Int) = many) && decide ((g : Int) = gone) && decide (4 * (many + gone) ≤ 3 * (n : Int))) := by
  by_cases h1 : (u : Int) = many
  · by_cases h2 : (g : Int) = gone
    · rw [w64 (n := many + gone) (by omega) (by omega), w64 (by omega) (by omega), w64 (by omega) (by omega)]
    · simp [h2]
  · simp [h1]
theorem fin_eq' {u g n : Nat} {many gone : Int} (hu : u ≤ n) (hg : g ≤ n) (hn : n < 1152921504606846976) :
    (decide ((u : Int) = many) && decide ((g : Int) = gone) && decide (IntKind.i64.wrap (4 * IntKind.i64.wrap ((u : Int) + g)) ≤ IntKind.i64.wrap (3 * (n : Int)))) = (decide ((u : Int) = many) && decide ((g : Int) = gone) && decide (4 * (many + gone) ≤ 3 * (n : Int))) := by
  by_cases h1 : (u : Int) = many
  · by_cases h2 : (g : Int) = gone
    · rw [w64 (n := (u : Int) + g) (by omega) (by omega), w64 (by omega) (by omega), w64 (by omega) (by omega), h1, h2]
    · simp [h2]
  · simp [h1]
def right_inv (s : Sto) (m : Nat) (st : St) : Prop := ∃ i : Nat, m = s.bs.length - i ∧ i ≤ s.bs.length ∧ (∀ j, j < i → goodAt s.bs j = true) ∧
  st = ⟨73, [(18, .val (.int .i64 i)), (17, .val (.int .i64 s.bs.length)), (16, .rd 3 (rowsB s.bs)), (4, .val (.int .i64 (goneN (s.bs.take i)))), (3, .mp 72), (1, .ref 64 3 0 0)],
    [(64, ⟨31, 3, [[.rd 3 (rowsB s.bs), .val (.int .i64 s.many), .val (.int .i64 s.gone)]], .cells⟩), (72, ⟨0, 2, rowsK (keysB (s.bs.take i)), .map⟩)], 80⟩
theorem right_call (s : Sto) (hl : s.bs.length < 1152921504606846976) :
    CallOk Try.prog 18 [stoP s] [] (.val (.bool (rightB s))) [] := by
  refine .of_exec Try.func18 rfl (enters_18) rfl rfl (Nat.le_of_ble_eq_true rfl) (fun n _ => rfl) ?_
  simp
  refine .plain (size_call _ ⟨by omega, by omega⟩) (by simp) (by simp) ?_
  by_cases c0 : sizeB s.bs.length = true
  · simp [c0]
    refine WPg.loopW (right_inv s) ⟨s.bs.length, _, ?_, ⟨0, by simp, by simp, by simp, rfl⟩⟩ ?_
    · exact Wk.rn [(64, 64), (80, 72)] rfl (by simp) (by simp [goneN]) (by simp [RowsOk, RowOk, keysB, rowsK])
    rintro m st ⟨i, h1, h2, h3, rfl⟩
    by_cases hi : i < s.bs.length
    · have hi' : (i : Int) < s.bs.length := by omega
      have hw : IntKind.i64.wrap ((i : Int) + 1) = ((i + 1 : Nat) : Int) := by rw [w64 (by omega) (by omega)]; omega
      obtain ⟨b, hb⟩ : ∃ b, s.bs[i] = b := ⟨_, rfl⟩
      have hd : s.bs.getD i .free = b := by rw [List.getD_eq_getElem?_getD, List.getElem?_eq_getElem hi, hb]; rfl
      have hgn := goneN_le (s.bs.take i)
      rw [List.length_take] at hgn
      have hgw : IntKind.i64.wrap ((goneN (s.bs.take i) : Int) + 1) = ((goneN (s.bs.take i) + 1 : Nat) : Int) := by rw [w64 (by omega) (by omega)]; omega
      have hbad : goodAt s.bs i = false → rightB s = false := fun h => by
        have : (List.range s.bs.length).all (goodAt s.bs) = false := by
          rw [List.all_eq_false]
          exact ⟨i, List.mem_range.2 hi, by simp [h]⟩
        simp [rightB, this]
      simp [hi, hi', rowB, hb]
      refine .plain (may_call b) (by simp [rowB]) (by simp) ?_
      by_cases c1 : mayB b = true
      · simp [c1]
        by_cases c2 : b.st = 2
        · simp [c2, hgw]
          refine ⟨s.bs.length - (i + 1), by omega, _, ?_, ⟨i + 1, rfl, by omega, fun j hj => ?_, rfl⟩⟩
          · rw [hw]
            refine Wk.rn [(64, 64), (72, 72)] rfl (by simp) (by simp [goneN_take hi hb, c2]) (by simp [RowsOk, RowOk, keysB_take hi hb, c2])
          · by_cases e : j = i
            · subst e; simp [goodAt, hb, c1, c2, hi]
            · exact h3 j (by omega)
        · by_cases c3 : b.st = 1
          · simp [c3]
            refine .plain (find_call s b.lab (by omega)) (by simp) (by simp) ?_
            by_cases c4 : (findB s.bs b.lab).1 = i
            · have hfr := keys_fresh h3 hi c4
              simp [c4, findP_rowsK 0 hfr]
              refine ⟨s.bs.length - (i + 1), by omega, _, ?_, ⟨i + 1, rfl, by omega, fun j hj => ?_, rfl⟩⟩
              · rw [hw]
                refine Wk.rn [(64, 64), (72, 72)] rfl (by simp) (by simp [goneN_take hi hb, c3]) (by simp [RowsOk, RowOk, keysB_take hi hb, c3, rowsK_snoc])
              · by_cases e : j = i
                · subst e; simp [goodAt, hb, c1, c4, hi]
                · exact h3 j (by omega)
            · simp [c4]
              exact .plain (by simp) (by simp; rw [hbad]; simp [goodAt, hb, c4, c3, hi])
          · simp [c2, c3]
            refine ⟨s.bs.length - (i + 1), by omega, _, ?_, ⟨i + 1, rfl, by omega, fun j hj => ?_, rfl⟩⟩
            · rw [hw]
              refine Wk.rn [(64, 64), (72, 72)] rfl (by simp) (by simp [goneN_take hi hb, c2]) (by simp [RowsOk, RowOk, keysB_take hi hb, c3])
            · by_cases e : j = i
              · subst e; simp [goodAt, hb, c1, c3, hi]
              · exact h3 j (by omega)
      · simp [c1]
        exact .plain (by simp) (by simp; rw [hbad]; simp [goodAt, hb, c1, hi])
    · obtain rfl : i = s.bs.length := by omega
      have hall : (List.range s.bs.length).all (goodAt s.bs) = true := by
        rw [List.all_eq_true]
        exact fun j hj => h3 j (List.mem_range.1 hj)
      have hfin := fin_eq (many := s.many) (gone := s.gone) (usedN_le s.bs) (goneN_le s.bs) (by omega)
      simp
      exact .plain (by simp) (by simp [rightB, c0, hall, keysB_length, hfin])
  · simp [c0]
    exact .plain (by simp) (by simp [rightB, c0])
theorem dup_none {bs : List Bkt} {i k : Nat} {b c : Bkt} (hg : ∀ j, j < i → goodAt bs j = true) (hi : i < bs.length) (hb : bs[i] = b) (hgi : goodAt bs i = true) (hk : k < i) (hc : bs[k]'(by omega) = c) : (decide (b.st = 1) && decide (c.st = 1) && decide (c.lab = b.lab)) = false := by
  by_cases c1 : b.st = 1
  · by_cases c2 : c.st = 1
    · have hd : bs.getD i .free = b := by rw [List.getD_eq_getElem?_getD, List.getElem?_eq_getElem hi, hb]; rfl
      rw [goodAt, hd] at hgi
      simp [c1] at hgi
      have := keys_fresh hg hi hgi.2
      have hm : c.lab ∈ keysB (bs.take i) := List.mem_map.2 ⟨c, List.mem_filter.2 ⟨List.mem_iff_getElem.2 ⟨k, by rw [List.length_take]; omega, by simpa using hc⟩, by simpa using c2⟩, rfl⟩
      have hne : c.lab ≠ b.lab := fun e => this (by rw [← e]; exact hm)
      simp [hne]
    · simp [c2]
  · simp [c1]
theorem bad_of {b : Bool} (h : ¬ b = true) : b = false := by cases b <;> simp at h ⊢
def refright_inv (s : Sto) (m : Nat) (st : St) : Prop := ∃ i : Nat, m = s.bs.length - i ∧ i ≤ s.bs.length ∧ (∀ j, j < i → goodAt s.bs j = true) ∧
  st = ⟨120, [(5, .val (.int .i64 i)), (4, .val (.int .i64 (goneN (s.bs.take i)))), (3, .val (.int .i64 (usedN (s.bs.take i)))), (1, .ref 64 3 0 0)],
    [(64, ⟨31, 3, [[.rd 3 (rowsB s.bs), .val (.int .i64 s.many), .val (.int .i64 s.gone)]], .cells⟩)], 72⟩
def refright_in (s : Sto) (i : Nat) (u g : Int) (m : Nat) (st : St) : Prop := ∃ k : Nat, m = i - k ∧ k ≤ i ∧
  st = ⟨120, [(9, .val (.int .i64 k)), (6, .ref 72 3 0 0), (5, .val (.int .i64 i)), (4, .val (.int .i64 g)), (3, .val (.int .i64 u)), (1, .ref 64 3 0 0)],
    [(72, ⟨25, 3, [rowB (s.bs.getD i .free)], .cells⟩), (64, ⟨31, 3, [[.rd 3 (rowsB s.bs), .val (.int .i64 s.many), .val (.int .i64 s.gone)]], .cells⟩)], 80⟩
theorem refright_call (s : Sto) (hl : s.bs.length < 1152921504606846976) :
    CallOk Try.prog 19 [stoP s] [] (.val (.bool (rightB s))) [] := by
  refine .of_exec Try.func19 rfl (enters_19) rfl rfl (Nat.le_of_ble_eq_true rfl) (fun n _ => rfl) ?_
  simp
  refine .plain (refsize_call _) (by simp) (by simp) ?_
  by_cases c0 : sizeB s.bs.length = true
  · simp [c0]
    refine WPg.loopW (refright_inv s) ⟨s.bs.length, _, ?_, ⟨0, by simp, by simp, by simp, rfl⟩⟩ ?_
    · exact Wk.rn [(64, 64)] rfl (by simp) (by simp [goneN, usedN]) (by simp [RowsOk, RowOk])
    rintro m st ⟨i, h1, h2, h3, rfl⟩
    by_cases hi : i < s.bs.length
    · have hi' : (i : Int) < s.bs.length := by omega
      have hw : IntKind.i64.wrap ((i : Int) + 1) = ((i + 1 : Nat) : Int) := by rw [w64 (by omega) (by omega)]; omega
      obtain ⟨b, hb⟩ : ∃ b, s.bs[i] = b := ⟨_, rfl⟩
      have hd : s.bs.getD i .free = b := by rw [List.getD_eq_getElem?_getD, List.getElem?_eq_getElem hi, hb]; rfl
      have hgn := goneN_le (s.bs.take i)
      have hun := usedN_le (s.bs.take i)
      rw [List.length_take] at hgn hun
      have hgw : IntKind.i64.wrap ((goneN (s.bs.take i) : Int) + 1) = ((goneN (s.bs.take i) + 1 : Nat) : Int) := by rw [w64 (by omega) (by omega)]; omega
      have huw : IntKind.i64.wrap ((usedN (s.bs.take i) : Int) + 1) = ((usedN (s.bs.take i) + 1 : Nat) : Int) := by rw [w64 (by omega) (by omega)]; omega
      have hbad : goodAt s.bs i = false → rightB s = false := fun h => by
        have : (List.range s.bs.length).all (goodAt s.bs) = false := by
          rw [List.all_eq_false]
          exact ⟨i, List.mem_range.2 hi, by simp [h]⟩
        simp [rightB, this]
      by_cases c3 : b.st = 1
      · simp [hi, hi', rowB, hb, c3]
        refine .plain (reffind_call s b.lab (by omega)) (by simp) (by simp) ?_
        simp [huw]
        refine ⟨fun h => .plain (by simp) (by simp; rw [hbad]; exact bad_of (fun hgd => by simp [goodAt, hi, hb, mayB, c3] at hgd; simp [hgd] at h)), fun ha hc hf => ?_⟩
        have hg : goodAt s.bs i = true := by simp [goodAt, hi, hb, mayB, c3, ha, hc, hf]
        refine WPg.loopW (refright_in s i (usedN (s.bs.take (i + 1))) (goneN (s.bs.take (i + 1)))) ⟨i, _, ?_, ⟨0, by simp, by simp, rfl⟩⟩ ?_
        · exact Wk.rn [(64, 64), (152, 72)] rfl (by simp) (by simp [goneN_take hi hb, usedN_take hi hb, c3]) (by simp [RowsOk, RowOk, hi, hb, rowB, c3])
        rintro m' st ⟨k, g1, g2, rfl⟩
        by_cases hk : k < i
        · have hk' : (k : Int) < i := by omega
          have hkl : k < s.bs.length := by omega
          have hw' : IntKind.i64.wrap ((k : Int) + 1) = ((k + 1 : Nat) : Int) := by rw [w64 (by omega) (by omega)]; omega
          obtain ⟨c, hc⟩ : ∃ c, s.bs[k] = c := ⟨_, rfl⟩
          have hdup := dup_none h3 hi hb hg hk hc
          simp [hk, hk', hkl, rowB, hi, hb, hc, c3]
          simp [c3] at hdup
          refine ⟨rfl, fun e1 e2 => absurd e2 (hdup e1), fun _ => ?_⟩
          refine ⟨i - (k + 1), by omega, _, ?_, ⟨k + 1, rfl, by omega, rfl⟩⟩
          rw [hw']
          exact Wk.rn [(64, 64), (72, 72)] rfl (by simp) (by simp) (by simp [RowsOk, RowOk, hi, hb, rowB, c3])
        · obtain rfl : k = i := by omega
          simp [hw]
          refine ⟨s.bs.length - (k + 1), by omega, _, ?_, ⟨k + 1, rfl, by omega, fun j hj => ?_, rfl⟩⟩
          · exact Wk.rn [(64, 64)] rfl (by simp) (by simp) (by simp [RowsOk, RowOk])
          · by_cases e : j = k
            · subst e; exact hg
            · exact h3 j (by omega)
      · by_cases c2 : b.st = 2
        · simp [hi, hi', rowB, hb, c2, hgw]
          refine ⟨fun h => .plain (by simp) (by simp; rw [hbad]; exact bad_of (fun hgd => by simp [goodAt, hi, hb, mayB, c2] at hgd; simp [hgd] at h)), fun ha hc => ?_⟩
          have hg : goodAt s.bs i = true := by simp [goodAt, hi, hb, mayB, c2, ha, hc]
          refine WPg.loopW (refright_in s i (usedN (s.bs.take (i + 1))) (goneN (s.bs.take (i + 1)))) ⟨i, _, ?_, ⟨0, by simp, by simp, rfl⟩⟩ ?_
          · exact Wk.rn [(64, 64), (152, 72)] rfl (by simp) (by simp [goneN_take hi hb, usedN_take hi hb, c2]) (by simp [RowsOk, RowOk, hi, hb, rowB, c2])
          rintro m' st ⟨k, g1, g2, rfl⟩
          by_cases hk : k < i
          · have hk' : (k : Int) < i := by omega
            have hkl : k < s.bs.length := by omega
            have hw' : IntKind.i64.wrap ((k : Int) + 1) = ((k + 1 : Nat) : Int) := by rw [w64 (by omega) (by omega)]; omega
            obtain ⟨c, hc⟩ : ∃ c, s.bs[k] = c := ⟨_, rfl⟩
            have hdup := dup_none h3 hi hb hg hk hc
            simp [hk, hk', hkl, rowB, hi, hb, hc, c2]
            refine ⟨rfl, ?_⟩
            refine ⟨i - (k + 1), by omega, _, ?_, ⟨k + 1, rfl, by omega, rfl⟩⟩
            rw [hw']
            exact Wk.rn [(64, 64), (72, 72)] rfl (by simp) (by simp) (by simp [RowsOk, RowOk, hi, hb, rowB, c2])
          · obtain rfl : k = i := by omega
            simp [hw]
            refine ⟨s.bs.length - (k + 1), by omega, _, ?_, ⟨k + 1, rfl, by omega, fun j hj => ?_, rfl⟩⟩
            · exact Wk.rn [(64, 64)] rfl (by simp) (by simp) (by simp [RowsOk, RowOk])
            · by_cases e : j = k
              · subst e; exact hg
              · exact h3 j (by omega)
        · by_cases c1 : b.st = 0
          · simp [hi, hi', rowB, hb, c1, hgw]
            refine ⟨fun h => .plain (by simp) (by simp; rw [hbad]; exact bad_of (fun hgd => by simp [goodAt, hi, hb, mayB, c1] at hgd; simp [hgd] at h)), fun ha hc => ?_⟩
            have hg : goodAt s.bs i = true := by simp [goodAt, hi, hb, mayB, c1, ha, hc]
            refine WPg.loopW (refright_in s i (usedN (s.bs.take (i + 1))) (goneN (s.bs.take (i + 1)))) ⟨i, _, ?_, ⟨0, by simp, by simp, rfl⟩⟩ ?_
            · exact Wk.rn [(64, 64), (152, 72)] rfl (by simp) (by simp [goneN_take hi hb, usedN_take hi hb, c1]) (by simp [RowsOk, RowOk, hi, hb, rowB, c1])
            rintro m' st ⟨k, g1, g2, rfl⟩
            by_cases hk : k < i
            · have hk' : (k : Int) < i := by omega
              have hkl : k < s.bs.length := by omega
              have hw' : IntKind.i64.wrap ((k : Int) + 1) = ((k + 1 : Nat) : Int) := by rw [w64 (by omega) (by omega)]; omega
              obtain ⟨c, hc⟩ : ∃ c, s.bs[k] = c := ⟨_, rfl⟩
              have hdup := dup_none h3 hi hb hg hk hc
              simp [hk, hk', hkl, rowB, hi, hb, hc, c1]
              refine ⟨rfl, ?_⟩
              refine ⟨i - (k + 1), by omega, _, ?_, ⟨k + 1, rfl, by omega, rfl⟩⟩
              rw [hw']
              exact Wk.rn [(64, 64), (72, 72)] rfl (by simp) (by simp) (by simp [RowsOk, RowOk, hi, hb, rowB, c1])
            · obtain rfl : k = i := by omega
              simp [hw]
              refine ⟨s.bs.length - (k + 1), by omega, _, ?_, ⟨k + 1, rfl, by omega, fun j hj => ?_, rfl⟩⟩
              · exact Wk.rn [(64, 64)] rfl (by simp) (by simp) (by simp [RowsOk, RowOk])
              · by_cases e : j = k
                · subst e; exact hg
                · exact h3 j (by omega)
          · simp [hi, hi', rowB, hb, c1, c2, c3]
            exact .plain (by simp) (by simp; rw [hbad]; simp [goodAt, hi, hb, mayB, c1, c2, c3])
    · obtain rfl : i = s.bs.length := by omega
      have hall : (List.range s.bs.length).all (goodAt s.bs) = true := by
        rw [List.all_eq_true]
        exact fun j hj => h3 j (List.mem_range.1 hj)
      have hfin := fin_eq' (many := s.many) (gone := s.gone) (usedN_le s.bs) (goneN_le s.bs) (by omega)
      simp
      exact .plain (by simp) (by simp [rightB, c0, hall, hfin])
  · simp [c0]
    exact .plain (by simp) (by simp [rightB, c0])
end Go.Proofs.Ythijmjglpcljcaa.Sy
