/- Layer 12: the law BucketLast. -/
import Derived.Test.YthijmjglpcljcaaB12aw
import Derived.Test.YthijmjglpcljcaaB12Wb
namespace Go.Proofs.Ythijmjglpcljcaa.Sy
open Go Go.RowKit
set_option linter.unusedVariables false
set_option linter.unusedSimpArgs false
set_option maxRecDepth 10000
set_option maxHeartbeats 4000000
def nowP (l : List ByteArray) : List PV := l.map fun s => .val (.string s)
@[simp] theorem nowP_length (l : List ByteArray) : (nowP l).length = l.length := by simp [nowP]
@[simp] theorem nowP_getQ {l : List ByteArray} {k : Nat} (h : k < l.length) : (nowP l)[k]? = some (.val (.string (l.getD k ⟨#[]⟩))) := by
  simp [nowP, h]
@[simp] theorem nowP_get {l : List ByteArray} {k : Nat} (h : k < (nowP l).length) : (nowP l)[k] = .val (.string (l.getD k ⟨#[]⟩)) := by
  have : k < l.length := by simpa using h
  simp [nowP, this]
@[simp] theorem nowP_set (l : List ByteArray) (k : Nat) (s : ByteArray) : (nowP l).set k (.val (.string s)) = nowP (l.set k s) := by simp [nowP, List.map_set]
@[simp] theorem nowP_map {f : PV → PV} (hf : ∀ v, f (.val v) = .val v) (l : List ByteArray) : (nowP l).map f = nowP l := by
  unfold nowP; rw [List.map_map]; exact List.map_congr_left fun b _ => by simp [hf]
@[simp] theorem nowP_rn0 (π : Nat → Option Nat) (l : List ByteArray) : (nowP l).map (rn0 π) = nowP l := nowP_map (fun _ => rfl) l
@[simp] theorem nowP_put {l : List ByteArray} {k : Nat} (h : k < l.length) (s : ByteArray) : (nowP l).take k ++ .val (.string s) :: (nowP l).drop (k + 1) = nowP (l.set k s) := by
  rw [← nowP_set, List.set_eq_take_append_cons_drop, if_pos (by simpa using h)]
@[simp ↓] theorem nowP_ok (n : Nat) (l : List ByteArray) : RowOk n (nowP l) ↔ l.length = n := by
  constructor
  · intro h; simpa using h.1
  · intro h
    refine ⟨by simpa using h, fun c hc => ?_⟩
    obtain ⟨b, _, rfl⟩ := List.mem_map.1 hc
    rfl
abbrev boxL (s : Sto) : List (List PV) := [[.rd 3 (rowsB s.bs), .val (.int .i64 s.many), .val (.int .i64 s.gone)]]
def last_inv (raw : List Stp) (m : Nat) (st : St) : Prop := ∃ i s now, m = raw.length - i ∧ i ≤ raw.length ∧ i ≤ 60 ∧ RightI s ∧ labs40 s ∧ LastI s now ∧
  st = ⟨170, [(7, .val (.int .i64 (i : Nat))), (6, .ref 80 40 0 0), (4, .ref 72 3 0 0), (3, .val (.bool true)), (0, .rd 3 (rows3 raw))], [(72, ⟨31, 3, boxL s, .cells⟩), (80, ⟨52, 40, [nowP now], .cells⟩)], 88⟩
def last_two (s : Sto) (now : List ByteArray) (m : Nat) (st : St) : Prop := ∃ j : Nat, m = 40 - j ∧ j ≤ 40 ∧
  st = ⟨170, [(13, .val (.int .i64 j)), (12, .val (.int .i64 (haveN now j))), (6, .ref 80 40 0 0), (4, .ref 72 3 0 0), (3, .val (.bool true))], [(72, ⟨31, 3, boxL s, .cells⟩), (80, ⟨52, 40, [nowP now], .cells⟩)], 88⟩
def last_three (s : Sto) (now : List ByteArray) (m : Nat) (st : St) : Prop := ∃ j : Nat, m = (allS s).length - j ∧ 1 ≤ j ∧
  st = ⟨170, [(17, .val (.int .i64 j)), (16, .rd 2 (rowsP (allS s))), (12, .val (.int .i64 s.many)), (4, .ref 72 3 0 0), (3, .val (.bool true))], [(72, ⟨31, 3, boxL s, .cells⟩)], 88⟩
theorem last_call (raw : List Stp) (h64 : steps64 raw) (hl : raw.length ≤ 9223372036854775807) : CallOk Try.prog 4 [.rd 3 (rows3 raw)] [] (.val (.bool true)) [] := by
  refine .of_exec Try.func4 rfl (enters_4) rfl rfl (Nat.le_of_ble_eq_true rfl) (fun n _ => rfl) ?_
  simp
  refine .plain awake_call (by simp) (by simp) ?_
  simp
  refine .plain (new_call fresh8) (by simp) (by simp) ?_
  simp
  refine WPg.loopW (last_inv raw) ⟨raw.length, _, ?_, ⟨0, freshS 8, List.replicate 40 ⟨#[]⟩, by simp, by simp, by simp, fresh_right fresh8, fresh_labs 8, last_fresh, rfl⟩⟩ ?_
  · exact Wk.rn [(120, 72), (160, 80)] rfl (by simp) (by simp) (by simp [nowP])
  rintro m st ⟨i, s, now, g1, g2, g3, hs, hlb, hla, rfl⟩
  have hr := right_small hs
  have hnl := hla.1
  by_cases hi : i < raw.length ∧ i < 60
  · obtain ⟨hi, h60⟩ := hi
    have hi' : (i : Int) < raw.length := by omega
    have h60' : (i : Int) < 60 := by omega
    have hw : IntKind.i64.wrap ((i : Int) + 1) = ((i + 1 : Nat) : Int) := by rw [w64 (by omega) (by omega)]; omega
    obtain ⟨x, hx⟩ : ∃ x, raw[i] = x := ⟨_, rfl⟩
    obtain ⟨x1, x2, x3⟩ : isI64 x.1 ∧ isI64 x.2.1 ∧ isI64 x.2.2 := h64 x (by rw [← hx]; exact List.getElem_mem hi)
    have hk := pick_lt (n := x.2.1) (m := 40) (by omega)
    have hk0 := pickI_range (c := x.2.1) (n := 40) (by omega)
    obtain ⟨k, hkk⟩ : ∃ k : Nat, pickI x.2.1 40 = k := ⟨(pickI x.2.1 40).toNat, by omega⟩
    have hk4 : k < 40 := by omega
    have hk4' : (k : Int) < 40 := by omega
    have hk39 : k ≤ 39 := by omega
    have hkn : k < now.length := by omega
    simp [hi, hi', h60', hx]
    refine .plain (pick_call x2 (by omega)) (by simp) (by simp) ?_
    rw [hkk]
    simp [hi, hi', hx, hk39, hk4, hk4', hkn]
    refine .plain (pick_call x1 (by omega)) (by simp) (by simp) ?_
    by_cases c : 0 < pickI x.1 3
    · obtain ⟨he, hp, hlp, _⟩ := put_40 hs hlb x.2.1 x.2.2
      have hn := last_put hs hlb hla x.2.1 x.2.2
      have cp := put_call s (labI x.2.1) (cellI x.2.2) (by omega)
      rw [he] at cp
      obtain ⟨t, ht⟩ : ∃ t, t = (putS s (labI x.2.1) (cellI x.2.2)).1 := ⟨_, rfl⟩
      rw [← ht] at cp hp hlp hn
      have hb := (right_iff t).2 hp
      have tz := right_small hp
      have cr := right_call t (by omega)
      rw [hb] at cr
      rw [hkk, Int.toNat_natCast] at hn
      simp [c, hi, hi', hx]
      refine callT.plain (label_call x2) (by simp) (by simp) ?_
      simp [hi, hi', hx]
      refine callT.plain (cell_call x3) (by simp) (by simp) ?_
      simp
      refine callT.plain cp (by simp) (by simp) ?_
      simp [hi, hi', hx]
      refine ⟨rfl, ?_⟩
      refine .plain (cell_call x3) (by simp) (by simp) ?_
      simp [hk39, hk4, hk4', hkn]
      refine .plain cr (by simp) (by simp) ?_
      simp
      refine ⟨raw.length - (i + 1), by omega, _, ?_, ⟨i + 1, t, _, rfl, by omega, by omega, hp, hlp, hn, rfl⟩⟩
      rw [hw]
      exact Wk.rn [(72, 72), (80, 80)] rfl (by simp) (by simp) (by simp [hnl])
    · obtain ⟨he, _, hp, hlp, _⟩ := del_40 hs hlb x.2.1
      obtain ⟨hn, hwas⟩ := last_del hs hlb hla x.2.1
      have cp := del_call s (labI x.2.1) (by omega)
      rw [he, hwas] at cp
      obtain ⟨t, ht⟩ : ∃ t, t = (delS s (labI x.2.1)).1 := ⟨_, rfl⟩
      rw [← ht] at cp hp hlp hn
      have hb := (right_iff t).2 hp
      have tz := right_small hp
      have cr := right_call t (by omega)
      rw [hb] at cr
      rw [hkk, Int.toNat_natCast] at hn cp
      simp [c, hi, hi', hx]
      refine callT.plain (label_call x2) (by simp) (by simp) ?_
      simp
      refine callT.plain cp (by simp) (by simp) ?_
      simp [hk39, hk4, hk4', hkn]
      refine ⟨rfl, .plain cr (by simp) (by simp) ?_⟩
      simp
      refine ⟨raw.length - (i + 1), by omega, _, ?_, ⟨i + 1, t, _, rfl, by omega, by omega, hp, hlp, hn, rfl⟩⟩
      rw [hw]
      exact Wk.rn [(72, 72), (80, 80)] rfl (by simp) (by simp) (by simp [hnl])
  · have hc : (decide (i < raw.length) && decide ((i : Int) < 60)) = false := by
      simp only [Bool.and_eq_false_imp, decide_eq_true_eq, decide_eq_false_iff_not]
      omega
    simp [hc]
    refine WPg.loopW (last_two s now) ⟨40, _, ?_, ⟨0, by simp, by simp, rfl⟩⟩ ?_
    · exact Wk.rn [(72, 72), (80, 80)] rfl (by simp) (by simp [haveN]) (by simp [hnl])
    rintro m st ⟨j, k1, k2, rfl⟩
    have hm := last_many hs hlb hla
    have hjn : j ≤ 40 → haveN now j ≤ 40 := fun h => Nat.le_trans (haveN_le now j) h
    by_cases hj : j < 40
    · have hj' : (j : Int) < 40 := by omega
      have hj39 : j ≤ 39 := by omega
      have hjl : j < now.length := by omega
      have hwj : IntKind.i64.wrap ((j : Int) + 1) = ((j + 1 : Nat) : Int) := by rw [w64 (by omega) (by omega)]; omega
      have hg := last_get hs hla hj
      have cg := get_call s (labI j) (by omega)
      rw [labI_nat hj, hg] at cg
      have cl := label_call (n := (j : Int)) ⟨by omega, by omega⟩
      rw [labI_nat hj] at cl
      have hsu := haveN_succ now j
      have hj1 := hjn (by omega)
      obtain ⟨v, hv⟩ : ∃ v, now.getD j ⟨#[]⟩ = v := ⟨_, rfl⟩
      have hv' : now[j] = v := by rw [← hv, List.getD_eq_getElem?_getD, List.getElem?_eq_getElem hjl]; rfl
      rw [hv] at cg hsu
      simp [hj, hj']
      refine callT.plain cl (by simp) (by simp) ?_
      simp
      refine callT.plain cg (by simp) (by simp) ?_
      by_cases hve : v = ⟨#[]⟩
      · rw [if_neg (by simpa using hve)] at hsu
        simp [hj, hj', hj39, hjl, hv', hve]
        refine ⟨rfl, 40 - (j + 1), by omega, _, ?_, ⟨j + 1, rfl, by omega, rfl⟩⟩
        rw [hwj]
        exact Wk.rn [(72, 72), (80, 80)] rfl (by simp) (by simp [hsu]) (by simp [hnl])
      · rw [if_pos hve] at hsu
        have hwh : IntKind.i64.wrap ((haveN now j : Int) + 1) = (haveN now (j + 1) : Int) := by rw [w64 (by omega) (by omega)]; omega
        simp [hj, hj', hj39, hjl, hv', hve, hwh]
        refine ⟨rfl, 40 - (j + 1), by omega, _, ?_, ⟨j + 1, rfl, by omega, rfl⟩⟩
        rw [hwj]
        exact Wk.rn [(72, 72), (80, 80)] rfl (by simp) (by simp) (by simp [hnl])
    · obtain rfl : j = 40 := by omega
      have hj1 := hjn (by omega)
      have hal := all_length hs
      have hby := (all_props hs).1
      simp
      refine .plain (all_call s (by omega)) (by simp) (by simp) ?_
      simp
      refine WPg.loopW (last_three s now) ⟨(allS s).length - 1, _, ?_, ⟨1, by simp, by simp, rfl⟩⟩ ?_
      · exact Wk.rn [(72, 72)] rfl (by simp) (by simp [hm]) (by simp)
      rintro m st ⟨j, q1, q2, rfl⟩
      by_cases hj : j < (allS s).length
      · have hj' : (j : Int) < (allS s).length := by omega
        obtain ⟨p, rfl⟩ : ∃ p, j = p + 1 := ⟨j - 1, by omega⟩
        have hp : p < (allS s).length := by omega
        have hp' : (p : Int) < (allS s).length := by omega
        have hlt := List.pairwise_iff_getElem.1 hby p (p + 1) hp hj (by omega)
        have hwj : IntKind.i64.wrap (((p : Int) + 1) + 1) = ((p + 1 + 1 : Nat) : Int) := by rw [w64 (by omega) (by omega)]; omega
        have hwm : IntKind.i64.wrap (p : Int) = p := w64 (by omega) (by omega)
        have hj2 : (p : Int) + 1 < (allS s).length := by omega
        have hj3 : (0 : Int) ≤ (p : Int) + 1 := by omega
        unfold ltB at hlt
        simp [hj, hj', hj2, hj3, hp, hp', hwm, hlt]
        refine ⟨rfl, (allS s).length - (p + 1 + 1), by omega, _, ?_, ⟨p + 1 + 1, rfl, by omega, rfl⟩⟩
        rw [hwj]
        exact Wk.rn [(72, 72)] rfl (by simp) (by simp) (by simp)
      · have w4 : IntKind.i64.wrap (4 * s.many) = 4 * s.many := w64 (by omega) (by omega)
        have w3 : IntKind.i64.wrap (3 * (s.bs.length : Int)) = 3 * s.bs.length := w64 (by omega) (by omega)
        have hld := hs.load
        have hld' : 4 * s.many ≤ 3 * (s.bs.length : Int) := by omega
        have hj' : ¬ (j : Int) < s.many := by omega
        simp [hj, hj', hal, w3, w4, hld']
        exact .plain (by simp) (by simp)
end Go.Proofs.Ythijmjglpcljcaa.Sy
