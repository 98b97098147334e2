/- Layer 12: the law BucketOrders. -/
import Derived.Test.YthijmjglpcljcaaB12aw
import Derived.Test.YthijmjglpcljcaaB12Wb
import Derived.Test.YthijmjglpcljcaaB12Li
namespace Go.Proofs.Ythijmjglpcljcaa.Sy
open Go Go.RowKit
set_option linter.unusedVariables false
set_option linter.unusedSimpArgs false
set_option maxRecDepth 10000
set_option maxHeartbeats 4000000
def hadI (l : List Int) (x : Int) : Bool := l.any fun y => decide (pickI y 40 = pickI x 40)
def ordStep (l : List Int) (x : Int) : List Int := if hadI l x then l else l ++ [x]
def ordS (raw : List Int) : List Int := (raw.take 40).foldl ordStep []
theorem ord_succ {raw : List Int} {i : Nat} (hi : i < raw.length) (h40 : i < 40) : ordS (raw.take (i + 1)) = ordStep (ordS (raw.take i)) raw[i] := by
  unfold ordS
  rw [List.take_take, List.take_take, Nat.min_eq_right (by omega), Nat.min_eq_right (by omega), List.take_succ_eq_append_getElem hi, List.foldl_append]
  rfl
def onceI (l : List Int) : Prop := l.Pairwise fun a b => pickI a 40 ≠ pickI b 40
theorem hadI_false {l : List Int} {x : Int} (h : hadI l x = false) : ∀ y ∈ l, pickI y 40 ≠ pickI x 40 := by
  intro y hy e
  have : hadI l x = true := List.any_eq_true.2 ⟨y, hy, decide_eq_true e⟩
  rw [h] at this; cases this
theorem ord_props {raw : List Int} (h64 : ∀ x ∈ raw, isI64 x) : onceI (ordS raw) ∧ (∀ x ∈ ordS raw, isI64 x) ∧ (ordS raw).length ≤ 40 := by
  have : ∀ (l acc : List Int), onceI acc → (∀ x ∈ acc, isI64 x) → (∀ x ∈ l, isI64 x) → onceI (l.foldl ordStep acc) ∧ (∀ x ∈ l.foldl ordStep acc, isI64 x) ∧ (l.foldl ordStep acc).length ≤ acc.length + l.length := by
    intro l
    induction l with
    | nil => exact fun acc h1 h2 _ => ⟨h1, h2, Nat.le_refl _⟩
    | cons x l ih =>
      intro acc h1 h2 h3
      have hx := h3 x List.mem_cons_self
      rw [List.foldl_cons]
      cases hh : hadI acc x with
      | true =>
        have e : ordStep acc x = acc := by unfold ordStep; rw [hh]; rfl
        rw [e]
        obtain ⟨a, b, c⟩ := ih acc h1 h2 (fun y hy => h3 y (List.mem_cons_of_mem _ hy))
        exact ⟨a, b, by rw [List.length_cons]; omega⟩
      | false =>
        have e : ordStep acc x = acc ++ [x] := by unfold ordStep; rw [hh]; rfl
        rw [e]
        obtain ⟨a, b, c⟩ := ih (acc ++ [x]) (List.pairwise_append.2 ⟨h1, List.pairwise_singleton _ _, fun y hy z hz => by
          rw [List.mem_singleton] at hz; subst hz; exact hadI_false hh y hy⟩) (fun y hy => by
          rcases List.mem_append.1 hy with hy | hy
          · exact h2 y hy
          · rw [List.mem_singleton] at hy; subst hy; exact hx) (fun y hy => h3 y (List.mem_cons_of_mem _ hy))
        exact ⟨a, b, by rw [List.length_append] at c; rw [List.length_cons]; simp at c; omega⟩
  obtain ⟨a, b, c⟩ := this (raw.take 40) [] List.Pairwise.nil (fun x hx => by simp at hx) (fun x hx => h64 x (List.mem_of_mem_take hx))
  exact ⟨a, b, by rw [List.length_take] at c; simp at c; unfold ordS; omega⟩
theorem once_take {l : List Int} (h : onceI l) {j : Nat} (hj : j < l.length) : ∀ x ∈ l.take j, pickI x 40 ≠ pickI l[j] 40 := by
  intro x hx
  obtain ⟨i, hi, e⟩ := List.getElem_of_mem hx
  rw [List.length_take] at hi
  rw [← e, List.getElem_take]
  exact List.pairwise_iff_getElem.1 h i j (by omega) hj (by omega)
theorem once_turn {l : List Int} (h : onceI l) (k : Nat) : onceI (l.drop k ++ l.take k) := by
  have h' := h
  unfold onceI at h'
  rw [← List.take_append_drop k l, List.pairwise_append] at h'
  exact List.pairwise_append.2 ⟨h'.2.1, h'.1, fun a ha b hb e => h'.2.2 b hb a ha e.symm⟩
abbrev boxO (s : Sto) : List (List PV) := [[.rd 3 (rowsB s.bs), .val (.int .i64 s.many), .val (.int .i64 s.gone)]]
def ord_one (raw : List Int) (a : Int) (m : Nat) (st : St) : Prop := ∃ i : Nat, m = raw.length - i ∧ i ≤ raw.length ∧ i ≤ 40 ∧
  st = ⟨148, [(7, .val (.int .i64 i)), (6, .sl 64 1 0 (ordS (raw.take i)).length), (5, .val (.bool true)), (1, .val (.int .i64 a)), (0, .rd 1 (rowsI raw))], [(64, ⟨3, 1, rowsI (ordS (raw.take i)), .cells⟩)], 72⟩
def ord_two (raw : List Int) (a : Int) (i : Nat) (x : Int) (m : Nat) (st : St) : Prop := ∃ k : Nat, m = (ordS (raw.take i)).length - k ∧ k ≤ (ordS (raw.take i)).length ∧
  st = ⟨148, [(9, .val (.int .i64 k)), (8, .val (.bool (hadI ((ordS (raw.take i)).take k) x))), (7, .val (.int .i64 i)), (6, .sl 64 1 0 (ordS (raw.take i)).length), (5, .val (.bool true)), (1, .val (.int .i64 a)), (0, .rd 1 (rowsI raw))], [(64, ⟨3, 1, rowsI (ordS (raw.take i)), .cells⟩)], 72⟩
def ord_three (l t : List Int) (m : Nat) (st : St) : Prop := ∃ (j : Nat) (a b : Sto), m = l.length - j ∧ j ≤ l.length ∧ PutsI a (l.take j) ∧ PutsI b (t.take j) ∧
  st = ⟨148, [(16, .val (.int .i64 j)), (14, .ref 88 3 0 0), (12, .ref 80 3 0 0), (11, .rd 1 (rowsI t)), (6, .rd 1 (rowsI l)), (5, .val (.bool true))], [(80, ⟨31, 3, boxO a, .cells⟩), (88, ⟨31, 3, boxO b, .cells⟩)], 96⟩
theorem orders_call (raw : List Int) (a : Int) (h64 : ∀ x ∈ raw, isI64 x) (ha : isI64 a) (hl : raw.length ≤ 9223372036854775807) : CallOk Try.prog 5 [.rd 1 (rowsI raw), .val (.int .i64 a)] [] (.val (.bool true)) [] := by
  refine .of_exec Try.func5 rfl (enters_5) rfl rfl (Nat.le_of_ble_eq_true rfl) (fun n _ => rfl) ?_
  simp
  refine .plain awake_call (by simp) (by simp) ?_
  simp
  refine WPg.loopW (ord_one raw a) ⟨raw.length, _, ?_, ⟨0, by simp, by simp, by simp, rfl⟩⟩ ?_
  · refine (Wk.nil [6] [] 3 1).trans ?_
    exact Wk.rn [(104, 64)] rfl (by simp) (by simp [ordS]) (by simp [ordS])
  rintro m st ⟨i, g1, g2, g3, rfl⟩
  have hop := ord_props (raw := raw.take i) (fun x hx => h64 x (List.mem_of_mem_take hx))
  obtain ⟨p1, p2, p3⟩ := hop
  by_cases hi : i < raw.length ∧ i < 40
  · obtain ⟨hi, h60⟩ := hi
    have hi' : (i : Int) < raw.length := by omega
    have h60' : (i : Int) < 40 := by omega
    have hw : IntKind.i64.wrap ((i : Int) + 1) = ((i + 1 : Nat) : Int) := by rw [w64 (by omega) (by omega)]; omega
    have hos := ord_succ hi h60
    obtain ⟨x, hx⟩ : ∃ x, raw[i] = x := ⟨_, rfl⟩
    have x1 : isI64 x := h64 x (by rw [← hx]; exact List.getElem_mem hi)
    rw [hx] at hos
    simp [hi, hi', h60', hx]
    refine WPg.loopW (ord_two raw a i x) ⟨(ordS (raw.take i)).length, _, ?_, ⟨0, by simp, by simp, rfl⟩⟩ ?_
    · exact Wk.rn [(64, 64)] rfl (by simp) (by simp [hadI]) (by simp)
    rintro m' st ⟨k, k1, k2, rfl⟩
    obtain ⟨l, hl'⟩ : ∃ l, l = ordS (raw.take i) := ⟨_, rfl⟩
    rw [← hl'] at p1 p2 p3 hos k1 k2 ⊢
    by_cases hk : k < l.length
    · have hk' : (k : Int) < l.length := by omega
      have hwk : IntKind.i64.wrap ((k : Int) + 1) = ((k + 1 : Nat) : Int) := by rw [w64 (by omega) (by omega)]; omega
      have hh : hadI (l.take (k + 1)) x = (hadI (l.take k) x || decide (pickI l[k] 40 = pickI x 40)) := by
        unfold hadI
        rw [List.take_succ_eq_append_getElem hk, List.any_append]; simp
      have y1 : isI64 l[k] := p2 _ (List.getElem_mem hk)
      obtain ⟨y, hy⟩ : ∃ y, l[k] = y := ⟨_, rfl⟩
      rw [hy] at hh y1
      cases hb : hadI (l.take k) x with
      | true =>
        rw [hb] at hh
        simp [hk, hk', hy, hi, hi', hx]
        refine ⟨rfl, l.length - (k + 1), by omega, _, ?_, ⟨k + 1, by rw [← hl'], by rw [← hl']; omega, rfl⟩⟩
        rw [hwk, ← hl']
        exact Wk.rn [(64, 64)] rfl (by simp) (by simp [hh]) (by simp)
      | false =>
        rw [hb] at hh
        simp [hk, hk', hy, hi, hi', hx]
        refine callT.plain (pick_call y1 (by omega)) (by simp) (by simp) ?_
        simp [hk, hk', hy, hi, hi', hx]
        refine callT.plain (pick_call x1 (by omega)) (by simp) (by simp) ?_
        simp
        refine ⟨rfl, l.length - (k + 1), by omega, _, ?_, ⟨k + 1, by rw [← hl'], by rw [← hl']; omega, rfl⟩⟩
        rw [hwk, ← hl']
        exact Wk.rn [(64, 64)] rfl (by simp) (by simp [hh]) (by simp)
    · obtain rfl : k = l.length := by omega
      rw [List.take_length]
      have m1 : 1 ≤ maxLen := by decide
      cases hb : hadI l x with
      | true =>
        have e : ordStep l x = l := by unfold ordStep; rw [hb]; rfl
        rw [e] at hos
        simp [hi, hi', hx]
        refine ⟨raw.length - (i + 1), by omega, _, ?_, ⟨i + 1, rfl, by omega, by omega, rfl⟩⟩
        rw [hw, hos]
        exact Wk.rn [(64, 64)] rfl (by simp) (by simp) (by simp)
      | false =>
        have e : ordStep l x = l ++ [x] := by unfold ordStep; rw [hb]; rfl
        rw [e] at hos
        have b1 : l.length ≤ 140737488355327 ∧ (l.length + 1) * 8 ≤ 140737488355328 := by omega
        simp [hi, hi', hx]
        refine ⟨m1, fun _ => ⟨b1, fun _ _ => ?_⟩⟩
        refine ⟨raw.length - (i + 1), by omega, _, ?_, ⟨i + 1, rfl, by omega, by omega, rfl⟩⟩
        rw [hw, hos]
        exact Wk.rn [(168, 64)] rfl (by simp) (by simp) (by simp)
  · have hc : (decide (i < raw.length) && decide ((i : Int) < 40)) = false := by
      simp only [Bool.and_eq_false_imp, decide_eq_true_eq, decide_eq_false_iff_not]
      omega
    obtain ⟨l, hl'⟩ : ∃ l, l = ordS (raw.take i) := ⟨_, rfl⟩
    rw [← hl'] at p1 p2 p3 ⊢
    have hwl : IntKind.i64.wrap ((l.length : Int) + 1) = ((l.length + 1 : Nat) : Int) := by rw [w64 (by omega) (by omega)]; omega
    have hkr := pickI_range (c := a) (n := ((l.length + 1 : Nat) : Int)) (by omega)
    obtain ⟨k, hk⟩ : ∃ k : Nat, pickI a ((l.length + 1 : Nat) : Int) = k := ⟨(pickI a ((l.length + 1 : Nat) : Int)).toNat, by omega⟩
    have hkl : k ≤ l.length := by omega
    have hkl' : (k : Int) ≤ l.length := by omega
    have cpk := pick_call (c := a) (n := ((l.length + 1 : Nat) : Int)) ha (by omega)
    rw [hk] at cpk
    have ht1 := once_turn p1 k
    simp [hc, hwl]
    refine .plain cpk (by simp) (by simp) ?_
    simp [hkl, hkl']
    have f16 : sizeB ((16 : Nat) : Int) = true := by decide
    have b1 : l.length ≤ 140737488355328 + k ∧ (l.length - k) * 8 ≤ 140737488355328 := by omega
    have b2 : l.length ≤ 140737488355328 ∧ l.length * 8 ≤ 140737488355328 := by omega
    refine ⟨b1, fun _ _ => ⟨b2, fun _ _ => ⟨rfl, .plain (new_call fresh8) (by simp) (by simp) ?_⟩⟩⟩
    simp
    refine .plain (new_call f16) (by simp) (by simp) ?_
    simp
    have et : List.take (l.length - k) (List.take (l.length - k) (List.drop k l)) ++ List.take k l = l.drop k ++ l.take k := by
      rw [List.take_take, Nat.min_self, List.take_of_length_le (by simp)]
    rw [et]
    obtain ⟨t, ht⟩ : ∃ t, t = l.drop k ++ l.take k := ⟨_, rfl⟩
    have htl : t.length = l.length := by rw [ht]; simp; omega
    have htm : ∀ x, x ∈ t ↔ x ∈ l := by
      intro x
      rw [ht, List.mem_append, Or.comm, ← List.mem_append, List.take_append_drop]
    rw [← ht] at ht1 ⊢
    refine WPg.loopW (ord_three l t) ⟨l.length, _, ?_, ⟨0, freshS 8, freshS 16, by simp, by simp, puts_fresh fresh8, puts_fresh f16, rfl⟩⟩ ?_
    · have ett : List.take l.length t = t := List.take_of_length_le (by omega)
      refine Wk.trans (Wk.frz [64, 240] (st' := ⟨148, [(16, .val (.int .i64 0)), (14, .ref 344 3 0 0), (12, .ref 288 3 0 0), (11, .rd 1 (rowsI t)), (6, .rd 1 (rowsI l)), (5, .val (.bool true))], [(344, ⟨31, 3, boxO (freshS 16), .cells⟩), (288, ⟨31, 3, boxO (freshS 8), .cells⟩)], _⟩) rfl rfl (by simp) (by simp [ett, htl]) (by simp)) ?_
      exact Wk.rn [(288, 80), (344, 88)] rfl (by simp) (by simp) (by simp)
    rintro m st ⟨j, sa, sb, j1, j2, ja, jb, rfl⟩
    have za := right_small ja.1
    have zb := right_small jb.1
    by_cases hj : j < l.length
    · have hj' : (j : Int) < l.length := by omega
      have hjt : j < t.length := by omega
      have hjt' : (j : Int) < t.length := by omega
      have hwj : IntKind.i64.wrap ((j : Int) + 1) = ((j + 1 : Nat) : Int) := by rw [w64 (by omega) (by omega)]; omega
      obtain ⟨ea, na⟩ := puts_step ja (once_take p1 hj)
      obtain ⟨eb, nb⟩ := puts_step jb (once_take ht1 hjt)
      rw [← List.take_succ_eq_append_getElem hj] at na
      rw [← List.take_succ_eq_append_getElem hjt] at nb
      have hxa : isI64 l[j] := p2 _ (List.getElem_mem hj)
      have hxb : isI64 t[j] := p2 _ ((htm _).1 (List.getElem_mem hjt))
      obtain ⟨x, hx⟩ : ∃ x, l[j] = x := ⟨_, rfl⟩
      obtain ⟨y, hy⟩ : ∃ y, t[j] = y := ⟨_, rfl⟩
      rw [hx] at ea na hxa
      rw [hy] at eb nb hxb
      have ca := put_call sa (labI x) (cellI x) (by omega)
      have cb := put_call sb (labI y) (cellI y) (by omega)
      rw [ea] at ca
      rw [eb] at cb
      obtain ⟨ta, hta⟩ : ∃ ta, ta = (putS sa (labI x) (cellI x)).1 := ⟨_, rfl⟩
      obtain ⟨tb, htb⟩ : ∃ tb, tb = (putS sb (labI y) (cellI y)).1 := ⟨_, rfl⟩
      rw [← hta] at ca na
      rw [← htb] at cb nb
      simp [hj, hj', hx]
      refine callT.plain (label_call hxa) (by simp) (by simp) ?_
      simp [hj, hj', hx]
      refine callT.plain (cell_call hxa) (by simp) (by simp) ?_
      simp
      refine callT.plain ca (by simp) (by simp) ?_
      simp [hjt, hjt', hy]
      refine ⟨rfl, callT.plain (label_call hxb) (by simp) (by simp) ?_⟩
      simp [hjt, hjt', hy]
      refine callT.plain (cell_call hxb) (by simp) (by simp) ?_
      simp
      refine callT.plain cb (by simp) (by simp) ?_
      simp
      refine ⟨rfl, l.length - (j + 1), by omega, _, ?_, ⟨j + 1, ta, tb, rfl, by omega, na, nb, rfl⟩⟩
      rw [hwj]
      exact Wk.rn [(80, 80), (88, 88)] rfl (by simp) (by simp) (by simp)
    · obtain rfl : j = l.length := by omega
      rw [List.take_length] at ja
      rw [List.take_of_length_le (by omega)] at jb
      have hs := puts_same ja jb (fun x => (htm x).symm)
      have m1 := ja.2.2.1
      have m2 := jb.2.2.1
      rw [htl] at m2
      have c1 := all_call sa (by omega)
      have c2 := all_call sb (by omega)
      have hal := all_length jb.1
      rw [hs] at c1
      simp
      refine callT.plain c1 (by simp) (by simp) ?_
      simp
      refine callT.plain c2 (by simp) (by simp) ?_
      simp
      refine callT.plain (pairs_call (allS sb) (by omega)) (by simp) (by simp) ?_
      simp [m1, m2]
      exact ⟨rfl, .plain (by simp) (by simp)⟩
end Go.Proofs.Ythijmjglpcljcaa.Sy
