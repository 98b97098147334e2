/- Layer 12: the law BucketTells. -/
import Derived.Test.YthijmjglpcljcaaB12aw
import Derived.Test.YthijmjglpcljcaaB12z
import Derived.Test.YthijmjglpcljcaaB12Li
import Derived.Test.YthijmjglpcljcaaB12Par
import Derived.Test.YthijmjglpcljcaaSyMore
namespace Go.Proofs.Ythijmjglpcljcaa.Sy
open Go Go.RowKit
set_option linter.unusedVariables false
set_option linter.unusedSimpArgs false
set_option maxRecDepth 10000
set_option maxHeartbeats 4000000
def newS (k : Int) : Sto × Int := if sizeB k then (freshS k.toNat, 0) else (⟨[], 0, 0⟩, 1)
theorem new_any {n : Int} (hn : isI64 n) : CallOk Try.prog 11 [.val (.int .i64 n)] [] (.tup [stoP (newS n).1, eI (newS n).2]) [] := by
  unfold newS
  cases h : sizeB n with
  | true =>
    have := size_le h
    obtain ⟨k, rfl⟩ : ∃ k : Nat, n = k := ⟨n.toNat, by omega⟩
    exact new_call h
  | false => exact new_bad hn h
theorem refnew_any {n : Int} (hn : isI64 n) : CallOk Try.prog 12 [.val (.int .i64 n)] [] (.tup [stoP (newS n).1, eI (newS n).2]) [] := by
  unfold newS
  cases h : sizeB n with
  | true =>
    have := size_le h
    obtain ⟨k, rfl⟩ : ∃ k : Nat, n = k := ⟨n.toNat, by omega⟩
    exact refnew_call h
  | false => exact refnew_bad hn h
theorem newS_small (n : Int) : (newS n).1.bs.length < 1000000 := by
  unfold newS
  cases h : sizeB n with
  | true =>
    have := size_le h
    simp; omega
  | false => simp
theorem put_small {s : Sto} (h : s.bs.length < 1000000) (l c : ByteArray) : (putS s l c).1.bs.length < 1000000 := by
  cases hc : (rightB s && decide ((l.size : Int) = 16) && decide ((c.size : Int) = 40)) with
  | false => rw [put_bad hc]; exact h
  | true =>
    simp only [Bool.and_eq_true, decide_eq_true_eq] at hc
    have := right_small (put_right (lab := l) (cell := c) ((right_iff s).1 hc.1.1) (by omega) (by omega))
    omega
theorem del_small {s : Sto} (h : s.bs.length < 1000000) (l : ByteArray) : (delS s l).1.bs.length < 1000000 := by
  cases hc : rightB s with
  | false => unfold delS; rw [hc]; exact h
  | true =>
    have := right_small (dels_right ((right_iff s).1 hc) l)
    omega
theorem all_small {s : Sto} (h : s.bs.length < 1000000) : (allS s).length < 1000000 := by
  unfold allS
  split
  · have := upto_le s.bs s.bs.length (Nat.le_refl _)
    unfold upto at this
    rw [List.take_length] at this
    omega
  · simp
def rowsS (l : List Sto) : List (List PV) := l.map fun s => [.rd 3 (rowsB s.bs), .val (.int .i64 s.many), .val (.int .i64 s.gone)]
@[simp] theorem rowsS_length (l : List Sto) : (rowsS l).length = l.length := by simp [rowsS]
@[simp] theorem rowsS_get {l : List Sto} {i : Nat} (h : i < (rowsS l).length) : (rowsS l)[i] = [.rd 3 (rowsB (l[i]'(by simpa using h)).bs), .val (.int .i64 (l[i]'(by simpa using h)).many), .val (.int .i64 (l[i]'(by simpa using h)).gone)] := by simp [rowsS]
@[simp] theorem rowsS_getQ {l : List Sto} {i : Nat} (h : i < l.length) : (rowsS l)[i]? = some [.rd 3 (rowsB l[i].bs), .val (.int .i64 l[i].many), .val (.int .i64 l[i].gone)] := by simp [rowsS, h]
@[simp] theorem strs_getQ {l : List ByteArray} {i : Nat} (h : i < l.length) : (strs l)[i]? = some [.val (.string l[i])] := by simp [rowsV, h]
abbrev oddP (b : Bkt) : PV := .agg [.val (.int .i64 b.st), .val (.string b.lab), .val (.string b.cell)]
structure TellArgs where
  raw : List Stp
  n : Int
  x : ByteArray
  y : ByteArray
  p : Stp
  odd : Bkt
  at' : Int
abbrev tellObs (t : TellArgs) : List (Nat × Ob) := [(64, ⟨23, 3, [[.val (.int .i64 t.p.1), .val (.int .i64 t.p.2.1), .val (.int .i64 t.p.2.2)]], .cells⟩), (72, ⟨25, 3, [rowB t.odd], .cells⟩)]
abbrev boxT (s : Sto) : List (List PV) := [[.rd 3 (rowsB s.bs), .val (.int .i64 s.many), .val (.int .i64 s.gone)]]
def tell_two (t : TellArgs) (x y : ByteArray) (ws : List Sto) (m : Nat) (st : St) : Prop := ∃ i : Nat, m = ws.length - i ∧ i ≤ ws.length ∧
  st = ⟨278, [(164, .val (.int .i64 i)), (163, .val (.int .i64 ws.length)), (162, .rd 3 (rowsS ws)), (17, .val (.string y)), (16, .val (.string x)), (15, .val (.bool true)), (11, .ref 64 3 0 0)], [(64, ⟨23, 3, [[.val (.int .i64 t.p.1), .val (.int .i64 t.p.2.1), .val (.int .i64 t.p.2.2)]], .cells⟩)], 72⟩
def tell_three (t : TellArgs) (x y : ByteArray) (ws : List Sto) (i : Nat) (w : Sto) (ls : List ByteArray) (m : Nat) (st : St) : Prop := ∃ j : Nat, m = ls.length - j ∧ j ≤ ls.length ∧
  st = ⟨278, [(187, .val (.int .i64 j)), (186, .val (.int .i64 ls.length)), (185, .rd 1 (strs ls)), (28, .ref 72 3 0 0), (164, .val (.int .i64 i)), (163, .val (.int .i64 ws.length)), (162, .rd 3 (rowsS ws)), (17, .val (.string y)), (16, .val (.string x)), (15, .val (.bool true)), (11, .ref 64 3 0 0)],
    [(64, ⟨23, 3, [[.val (.int .i64 t.p.1), .val (.int .i64 t.p.2.1), .val (.int .i64 t.p.2.2)]], .cells⟩), (72, ⟨31, 3, boxT w, .cells⟩)], 80⟩
def tell_four (t : TellArgs) (x y : ByteArray) (ws : List Sto) (i : Nat) (w : Sto) (ls : List ByteArray) (j : Nat) (l : ByteArray) (cs : List ByteArray) (m : Nat) (st : St) : Prop := ∃ k : Nat, m = cs.length - k ∧ k ≤ cs.length ∧
  st = ⟨278, [(197, .val (.int .i64 k)), (196, .val (.int .i64 cs.length)), (195, .rd 1 (strs cs)), (30, .val (.string l)), (187, .val (.int .i64 j)), (186, .val (.int .i64 ls.length)), (185, .rd 1 (strs ls)), (28, .ref 72 3 0 0), (164, .val (.int .i64 i)), (163, .val (.int .i64 ws.length)), (162, .rd 3 (rowsS ws)), (17, .val (.string y)), (16, .val (.string x)), (15, .val (.bool true)), (11, .ref 64 3 0 0)],
    [(64, ⟨23, 3, [[.val (.int .i64 t.p.1), .val (.int .i64 t.p.2.1), .val (.int .i64 t.p.2.2)]], .cells⟩), (72, ⟨31, 3, boxT w, .cells⟩)], 80⟩
def tell_one (t : TellArgs) (x y : ByteArray) (ks : List Int) (m : Nat) (st : St) : Prop := ∃ i : Nat, m = ks.length - i ∧ i ≤ ks.length ∧
  st = ⟨278, [(68, .val (.int .i64 i)), (67, .val (.int .i64 ks.length)), (66, .rd 1 (rowsI ks)), (17, .val (.string y)), (16, .val (.string x)), (15, .val (.bool true)), (12, .ref 72 3 0 0), (11, .ref 64 3 0 0), (6, .val (.int .i64 t.at')), (1, .val (.int .i64 t.n)), (0, .rd 3 (rows3 t.raw))],
    [(64, ⟨23, 3, [[.val (.int .i64 t.p.1), .val (.int .i64 t.p.2.1), .val (.int .i64 t.p.2.2)]], .cells⟩), (72, ⟨25, 3, [rowB t.odd], .cells⟩)], 80⟩
theorem tells_call (t : TellArgs) (h64 : steps64 t.raw) (hl : t.raw.length ≤ 9223372036854775807) (hn : isI64 t.n) (hx : t.x.size ≤ 9223372036854775807) (hy : t.y.size ≤ 9223372036854775807) (hp : isI64 t.p.1 ∧ isI64 t.p.2.1 ∧ isI64 t.p.2.2) (ho : isI64 t.odd.st) (ha : isI64 t.at') :
    CallOk Try.prog 3 [.rd 3 (rows3 t.raw), .val (.int .i64 t.n), .val (.string t.x), .val (.string t.y), .agg [.val (.int .i64 t.p.1), .val (.int .i64 t.p.2.1), .val (.int .i64 t.p.2.2)], oddP t.odd, .val (.int .i64 t.at')] [] (.val (.bool true)) [] := by
  refine .of_run Try.func3 rfl (enters_3) rfl rfl (Nat.le_of_ble_eq_true rfl) (fun n _ => rfl) ?_
  refine WPg.cutW [0, 1, 2, 3] (fun st => ∃ x y, st = ⟨278, [(17, .val (.string y)), (16, .val (.string x)), (15, .val (.bool true)), (12, .ref 72 3 0 0), (11, .ref 64 3 0 0), (6, .val (.int .i64 t.at')), (1, .val (.int .i64 t.n)), (0, .rd 3 (rows3 t.raw))],
    [(64, ⟨23, 3, [[.val (.int .i64 t.p.1), .val (.int .i64 t.p.2.1), .val (.int .i64 t.p.2.2)]], .cells⟩), (72, ⟨25, 3, [rowB t.odd], .cells⟩)], 80⟩) ?_ ?_
  · simp
    refine .plain awake_call (by simp) (by simp) ?_
    have hmx : (0 ≤ if 100 < (t.x.size : Int) then (100 : Int) else (t.x.size : Int)) ∧ (if 100 < (t.x.size : Int) then (100 : Int) else (t.x.size : Int)) ≤ t.x.size := by split <;> omega
    have hmy : (0 ≤ if 100 < (t.y.size : Int) then (100 : Int) else (t.y.size : Int)) ∧ (if 100 < (t.y.size : Int) then (100 : Int) else (t.y.size : Int)) ≤ t.y.size := by split <;> omega
    simp
    refine ⟨hmx, fun _ _ => ⟨hmy, fun _ _ => ⟨_, ?_, t.x.extract 0 (if 100 < (t.x.size : Int) then (100 : Int) else (t.x.size : Int)).toNat, t.y.extract 0 (if 100 < (t.y.size : Int) then (100 : Int) else (t.y.size : Int)).toNat, rfl⟩⟩⟩
    exact Wk.rn [(64, 64), (72, 72)] rfl (by simp) (by simp) (by simp [rowB])
  rintro st ⟨x, y, rfl⟩
  dsimp only [tailC]
  refine WPg.cutW [4, 5, 6, 7, 8, 9] (fun st => ∃ s z : Sto, s.bs.length < 1000000 ∧ z.bs.length < 1000000 ∧ st = ⟨278, [(25, .ref 88 3 0 0), (24, .ref 80 3 0 0), (17, .val (.string y)), (16, .val (.string x)), (15, .val (.bool true)), (11, .ref 64 3 0 0)],
    [(64, ⟨23, 3, [[.val (.int .i64 t.p.1), .val (.int .i64 t.p.2.1), .val (.int .i64 t.p.2.2)]], .cells⟩), (80, ⟨31, 3, boxT s, .cells⟩), (88, ⟨31, 3, boxT z, .cells⟩)], 96⟩) ?_ ?_
  rotate_left
  · rintro st ⟨s, z, hs, hz, rfl⟩
    refine .run ?_
    have m2 : 2 ≤ maxLen := by decide
    simp [m2]
    obtain ⟨ws, hws⟩ : ∃ ws, ws = [s, z] := ⟨_, rfl⟩
    have hwl : ws.length = 2 := by rw [hws]; rfl
    have hwm : ∀ w ∈ ws, w.bs.length < 1000000 := by
      intro w hw
      rw [hws] at hw
      simp only [List.mem_cons, List.not_mem_nil, or_false] at hw
      rcases hw with rfl | rfl <;> assumption
    refine WPg.loopW (tell_two t x y ws) ⟨ws.length, _, ?_, ⟨0, by simp, by simp, rfl⟩⟩ ?_
    · refine Wk.trans (Wk.frz [112] (st' := ⟨278, [(164, .val (.int .i64 0)), (163, .val (.int .i64 2)), (162, .rd 3 (rowsS ws)), (17, .val (.string y)), (16, .val (.string x)), (15, .val (.bool true)), (11, .ref 64 3 0 0)],
        [(64, ⟨23, 3, [[.val (.int .i64 t.p.1), .val (.int .i64 t.p.2.1), .val (.int .i64 t.p.2.2)]], .cells⟩)], _⟩) rfl rfl (by simp) (by simp [hws, rowsS]) (by simp)) ?_
      exact Wk.rn [(64, 64)] rfl (by simp) (by simp [hwl]) (by simp)
    rintro m st ⟨i, k1, k2, rfl⟩
    by_cases hi : i < ws.length
    · have hi' : (i : Int) < ws.length := by omega
      have hwi : IntKind.i64.wrap ((i : Int) + 1) = ((i + 1 : Nat) : Int) := by rw [w64 (by omega) (by omega)]; omega
      have hw := hwm _ (List.getElem_mem hi)
      obtain ⟨w, hwe⟩ : ∃ w, ws[i] = w := ⟨_, rfl⟩
      rw [hwe] at hw
      have has := all_small hw
      simp [hi, hi', hwe]
      refine callT.plain (right_call w (by omega)) (by simp) (by simp) ?_
      simp
      refine callT.plain (refright_call w (by omega)) (by simp) (by simp) ?_
      simp
      refine callT.plain (all_call w hw) (by simp) (by simp) ?_
      simp
      refine callT.plain (refall_call w hw) (by simp) (by simp) ?_
      simp
      refine callT.plain (pairs_call (allS w) has) (by simp) (by simp) ?_
      simp
      refine ⟨rfl, .plain (label_call hp.2.1) (by simp) (by simp) ?_⟩
      simp [m2]
      obtain ⟨ls, hls⟩ : ∃ ls, ls = [x, labI t.p.2.1] := ⟨_, rfl⟩
      have hll : ls.length = 2 := by rw [hls]; rfl
      refine WPg.loopW (tell_three t x y ws i w ls) ⟨ls.length, _, ?_, ⟨0, by simp, by simp, rfl⟩⟩ ?_
      · refine Wk.trans (Wk.frz [248] (st' := ⟨278, [(187, .val (.int .i64 0)), (186, .val (.int .i64 2)), (185, .rd 1 (strs ls)), (28, .ref 96 3 0 0), (164, .val (.int .i64 i)), (163, .val (.int .i64 ws.length)), (162, .rd 3 (rowsS ws)), (17, .val (.string y)), (16, .val (.string x)), (15, .val (.bool true)), (11, .ref 64 3 0 0)],
        [(64, ⟨23, 3, [[.val (.int .i64 t.p.1), .val (.int .i64 t.p.2.1), .val (.int .i64 t.p.2.2)]], .cells⟩), (96, ⟨31, 3, boxT w, .cells⟩)], _⟩) rfl rfl (by simp) (by simp [hls, rowsV]) (by simp)) ?_
        exact Wk.rn [(64, 64), (96, 72)] rfl (by simp) (by simp [hll]) (by simp)
      rintro m' st ⟨j, q1, q2, rfl⟩
      by_cases hj : j < ls.length
      · have hj' : (j : Int) < ls.length := by omega
        have hwj : IntKind.i64.wrap ((j : Int) + 1) = ((j + 1 : Nat) : Int) := by rw [w64 (by omega) (by omega)]; omega
        obtain ⟨l, hle⟩ : ∃ l, ls[j] = l := ⟨_, rfl⟩
        simp [hj, hj', hle]
        refine .plain (cell_call hp.2.2) (by simp) (by simp) ?_
        simp [m2]
        obtain ⟨cs, hcs⟩ : ∃ cs, cs = [y, cellI t.p.2.2] := ⟨_, rfl⟩
        have hcl : cs.length = 2 := by rw [hcs]; rfl
        refine WPg.loopW (tell_four t x y ws i w ls j l cs) ⟨cs.length, _, ?_, ⟨0, by simp, by simp, rfl⟩⟩ ?_
        · refine Wk.trans (Wk.frz [144] (st' := ⟨278, [(197, .val (.int .i64 0)), (196, .val (.int .i64 2)), (195, .rd 1 (strs cs)), (30, .val (.string l)), (187, .val (.int .i64 j)), (186, .val (.int .i64 ls.length)), (185, .rd 1 (strs ls)), (28, .ref 72 3 0 0), (164, .val (.int .i64 i)), (163, .val (.int .i64 ws.length)), (162, .rd 3 (rowsS ws)), (17, .val (.string y)), (16, .val (.string x)), (15, .val (.bool true)), (11, .ref 64 3 0 0)],
        [(64, ⟨23, 3, [[.val (.int .i64 t.p.1), .val (.int .i64 t.p.2.1), .val (.int .i64 t.p.2.2)]], .cells⟩), (72, ⟨31, 3, boxT w, .cells⟩)], _⟩) rfl rfl (by simp) (by simp [hcs, rowsV]) (by simp)) ?_
          exact Wk.rn [(64, 64), (72, 72)] rfl (by simp) (by simp [hcl]) (by simp)
        rintro m'' st ⟨k, r1, r2, rfl⟩
        by_cases hk : k < cs.length
        · have hk' : (k : Int) < cs.length := by omega
          have hwk : IntKind.i64.wrap ((k : Int) + 1) = ((k + 1 : Nat) : Int) := by rw [w64 (by omega) (by omega)]; omega
          obtain ⟨c, hce⟩ : ∃ c, cs[k] = c := ⟨_, rfl⟩
          have hps := put_small hw l c
          simp [hk, hk', hce]
          refine .plain (put_call w l c hw) (by simp) (by simp) ?_
          simp
          refine .plain (refput_call w l c hw) (by simp) (by simp) ?_
          simp
          refine .plain (same_call (putS w l c).1 hps) (by simp) (by simp) ?_
          simp
          refine ⟨cs.length - (k + 1), by omega, _, ?_, ⟨k + 1, rfl, by omega, rfl⟩⟩
          rw [hwk]
          exact Wk.rn [(64, 64), (72, 72)] rfl (by simp) (by simp) (by simp)
        · obtain rfl : k = cs.length := by omega
          have hds := del_small hw l
          simp
          refine .plain (del_call w l hw) (by simp) (by simp) ?_
          simp
          refine .plain (refdel_call w l hw) (by simp) (by simp) ?_
          simp
          refine .plain (get_call w l hw) (by simp) (by simp) ?_
          simp
          refine .plain (refget_call w l hw) (by simp) (by simp) ?_
          simp
          refine .plain (same_call (delS w l).1 hds) (by simp) (by simp) ?_
          simp
          refine ⟨ls.length - (j + 1), by omega, _, ?_, ⟨j + 1, rfl, by omega, rfl⟩⟩
          rw [hwj]
          exact Wk.rn [(64, 64), (72, 72)] rfl (by simp) (by simp) (by simp)
      · obtain rfl : j = ls.length := by omega
        simp
        refine ⟨ws.length - (i + 1), by omega, _, ?_, ⟨i + 1, rfl, by omega, rfl⟩⟩
        rw [hwi]
        exact Wk.rn [(64, 64)] rfl (by simp) (by simp) (by simp)
    · obtain rfl : i = ws.length := by omega
      simp
      exact .plain (by simp) (by simp)
  have p1 := pickI_range (c := t.n) (n := 9000) (by omega)
  have p2 := pickI_range (c := t.n) (n := 9) (by omega)
  have p3 := pickI_range (c := t.n) (n := 11) (by omega)
  have m3 : 3 ≤ maxLen := by decide
  simp
  refine .plain (pick_call hn (by omega)) (by simp) (by simp) ?_
  simp
  refine .plain (pick_call hn (by omega)) (by simp) (by simp) ?_
  simp
  refine .plain (pick_call hn (by omega)) (by simp) (by simp) ?_
  simp [p3, m3]
  have i1 : isI64 (pickI t.n 9000) := ⟨by omega, by omega⟩
  have i2 := isI64_wrap (-pickI t.n 9)
  have i3 := isI64_wrap (8 * 2 ^ min (pickI t.n 11).toNat IntKind.i64.bits)
  generalize pickI t.n 9000 = a1 at i1 ⊢
  generalize IntKind.i64.wrap (-pickI t.n 9) = a2 at i2 ⊢
  generalize IntKind.i64.wrap (8 * 2 ^ min (pickI t.n 11).toNat IntKind.i64.bits) = a3 at i3 ⊢
  obtain ⟨ks, hks⟩ : ∃ ks, ks = [a1, a2, a3] := ⟨_, rfl⟩
  have hkl : ks.length = 3 := by rw [hks]; rfl
  have hki : ∀ k ∈ ks, isI64 k := by
    intro k hk
    rw [hks] at hk
    simp only [List.mem_cons, List.not_mem_nil, or_false] at hk
    rcases hk with rfl | rfl | rfl <;> assumption
  refine WPg.loopW (tell_one t x y ks) ⟨ks.length, _, ?_, ⟨0, by simp, by simp, rfl⟩⟩ ?_
  · refine Wk.trans (Wk.frz [144] (st' := ⟨278, [(68, .val (.int .i64 0)), (67, .val (.int .i64 3)), (66, .rd 1 (rowsI ks)), (17, .val (.string y)), (16, .val (.string x)), (15, .val (.bool true)), (12, .ref 72 3 0 0), (11, .ref 64 3 0 0), (6, .val (.int .i64 t.at')), (1, .val (.int .i64 t.n)), (0, .rd 3 (rows3 t.raw))],
      tellObs t, _⟩) rfl rfl (by simp) (by simp [hks, rowsI]) (by simp [rowB])) ?_
    exact Wk.rn [(64, 64), (72, 72)] rfl (by simp) (by simp [hkl]) (by simp [rowB])
  rintro m st ⟨i, k1, k2, rfl⟩
  by_cases hi : i < ks.length
  · have hi' : (i : Int) < ks.length := by omega
    have hw : IntKind.i64.wrap ((i : Int) + 1) = ((i + 1 : Nat) : Int) := by rw [w64 (by omega) (by omega)]; omega
    have hk := hki _ (List.getElem_mem hi)
    obtain ⟨k, hkk⟩ : ∃ k, ks[i] = k := ⟨_, rfl⟩
    rw [hkk] at hk
    have hsm := newS_small k
    simp [hi, hi', hkk]
    refine .plain (new_any hk) (by simp) (by simp) ?_
    simp
    refine .plain (refnew_any hk) (by simp) (by simp) ?_
    simp
    refine .plain (same_call (newS k).1 hsm) (by simp) (by simp) ?_
    simp
    refine .plain (home_call x hk) (by simp) (by simp) ?_
    simp
    refine .plain (refhome_call x hk) (by simp) (by simp) ?_
    simp
    refine ⟨ks.length - (i + 1), by omega, _, ?_, ⟨i + 1, rfl, by omega, rfl⟩⟩
    rw [hw]
    exact Wk.rn [(64, 64), (72, 72)] rfl (by simp) (by simp) (by simp [rowB])
  · obtain rfl : i = ks.length := by omega
    have hs := store_right t.raw
    have hst := store_call t.raw h64 hl
    generalize storeS t.raw = s at hs hst
    have hr := right_small hs
    have hne : s.bs ≠ [] := by intro e; rw [e] at hr; simp at hr
    obtain ⟨p, hpp⟩ : ∃ p : Nat, pickI t.at' (s.bs.length : Int) = p := ⟨(pickI t.at' (s.bs.length : Int)).toNat, by have := pickI_range (c := t.at') (n := (s.bs.length : Int)) (by omega); omega⟩
    have hpl : p < s.bs.length := by have := pickI_range (c := t.at') (n := (s.bs.length : Int)) (by omega); omega
    have hpl' : (p : Int) < s.bs.length := by omega
    have cp := pick_call (c := t.at') (n := (s.bs.length : Int)) ha (by omega)
    rw [hpp] at cp
    simp
    refine .plain (home_call x hn) (by simp) (by simp) ?_
    simp
    refine .plain (refhome_call x hn) (by simp) (by simp) ?_
    simp
    refine .plain hst (by simp) (by simp) ?_
    simp
    refine callK.own [] [] (refown_own (s := s) (by omega)) (by simp) (by simp) (by simp) (by simp) (by simp) (by simp) (by simp) (by simp) (by simp) (by simp) ?_
    simp
    refine .plain cp (by simp) (by simp) ?_
    simp
    refine .plain (pick_call hp.1 (by omega)) (by simp) (by simp) ?_
    have hc := pickI_range (c := t.p.1) (n := 5) (by omega)
    have hc5 : pickI t.p.1 5 = 0 ∨ pickI t.p.1 5 = 1 ∨ pickI t.p.1 5 = 2 ∨ pickI t.p.1 5 = 3 ∨ pickI t.p.1 5 = 4 := by omega
    have hwm : IntKind.i64.wrap (s.many + 1) = s.many + 1 := w64 (by omega) (by omega)
    have h0 : 0 < s.bs.length := by omega
    have h0' : (0 : Int) < s.bs.length := by omega
    have hple : p ≤ s.bs.length := by omega
    rcases hc5 with e | e | e | e | e
    · simp [e, hpl, hpl', rowB]
      refine ⟨⟨278, [(25, .ref 88 3 0 0), (24, .ref 80 3 0 0), (17, .val (.string y)), (16, .val (.string x)), (15, .val (.bool true)), (11, .ref 64 3 0 0)], _, 96⟩, ?_, s, by omega, ⟨s.bs.set p t.odd, s.many, s.gone⟩, by simp; omega, rfl⟩
      refine Wk.trans (Wk.frz [184] (st' := ⟨278, [(25, .ref 192 3 0 0), (24, .ref 160 3 0 0), (17, .val (.string y)), (16, .val (.string x)), (15, .val (.bool true)), (11, .ref 64 3 0 0)],
        [(64, ⟨23, 3, [[.val (.int .i64 t.p.1), .val (.int .i64 t.p.2.1), .val (.int .i64 t.p.2.2)]], .cells⟩), (160, ⟨31, 3, boxT s, .cells⟩), (192, ⟨31, 3, boxT ⟨s.bs.set p t.odd, s.many, s.gone⟩, .cells⟩)], _⟩) rfl rfl (by simp) (by simp) (by simp)) ?_
      exact Wk.rn [(64, 64), (160, 80), (192, 88)] rfl (by simp) (by simp) (by simp)
    · simp [e, hwm]
      refine ⟨⟨278, [(25, .ref 88 3 0 0), (24, .ref 80 3 0 0), (17, .val (.string y)), (16, .val (.string x)), (15, .val (.bool true)), (11, .ref 64 3 0 0)], _, 96⟩, ?_, s, by omega, ⟨s.bs, s.many + 1, s.gone⟩, by show s.bs.length < _; omega, rfl⟩
      refine Wk.trans (Wk.frz [184] (st' := ⟨278, [(25, .ref 192 3 0 0), (24, .ref 160 3 0 0), (17, .val (.string y)), (16, .val (.string x)), (15, .val (.bool true)), (11, .ref 64 3 0 0)],
        [(64, ⟨23, 3, [[.val (.int .i64 t.p.1), .val (.int .i64 t.p.2.1), .val (.int .i64 t.p.2.2)]], .cells⟩), (160, ⟨31, 3, boxT s, .cells⟩), (192, ⟨31, 3, boxT ⟨s.bs, s.many + 1, s.gone⟩, .cells⟩)], _⟩) rfl rfl (by simp) (by simp) (by simp)) ?_
      exact Wk.rn [(64, 64), (160, 80), (192, 88)] rfl (by simp) (by simp) (by simp)
    · simp [e]
      refine ⟨⟨278, [(25, .ref 88 3 0 0), (24, .ref 80 3 0 0), (17, .val (.string y)), (16, .val (.string x)), (15, .val (.bool true)), (11, .ref 64 3 0 0)], _, 96⟩, ?_, s, by omega, ⟨s.bs, s.many, t.n⟩, by show s.bs.length < _; omega, rfl⟩
      refine Wk.trans (Wk.frz [184] (st' := ⟨278, [(25, .ref 192 3 0 0), (24, .ref 160 3 0 0), (17, .val (.string y)), (16, .val (.string x)), (15, .val (.bool true)), (11, .ref 64 3 0 0)],
        [(64, ⟨23, 3, [[.val (.int .i64 t.p.1), .val (.int .i64 t.p.2.1), .val (.int .i64 t.p.2.2)]], .cells⟩), (160, ⟨31, 3, boxT s, .cells⟩), (192, ⟨31, 3, boxT ⟨s.bs, s.many, t.n⟩, .cells⟩)], _⟩) rfl rfl (by simp) (by simp) (by simp)) ?_
      exact Wk.rn [(64, 64), (160, 80), (192, 88)] rfl (by simp) (by simp) (by simp)
    · simp [e, hpl, hpl', rowB, h0, h0']
      refine ⟨rfl, ?_⟩
      refine ⟨⟨278, [(25, .ref 88 3 0 0), (24, .ref 80 3 0 0), (17, .val (.string y)), (16, .val (.string x)), (15, .val (.bool true)), (11, .ref 64 3 0 0)], _, 96⟩, ?_, s, by omega, ⟨(s.bs.set p s.bs[0]).set 0 s.bs[p], s.many, s.gone⟩, by simp; omega, rfl⟩
      refine Wk.trans (Wk.frz [184] (st' := ⟨278, [(25, .ref 192 3 0 0), (24, .ref 160 3 0 0), (17, .val (.string y)), (16, .val (.string x)), (15, .val (.bool true)), (11, .ref 64 3 0 0)],
        [(64, ⟨23, 3, [[.val (.int .i64 t.p.1), .val (.int .i64 t.p.2.1), .val (.int .i64 t.p.2.2)]], .cells⟩), (160, ⟨31, 3, boxT s, .cells⟩), (192, ⟨31, 3, boxT ⟨(s.bs.set p s.bs[0]).set 0 s.bs[p], s.many, s.gone⟩, .cells⟩)], _⟩) rfl rfl (by simp) (by simp) (by simp [List.take_of_length_le])) ?_
      exact Wk.rn [(64, 64), (160, 80), (192, 88)] rfl (by simp) (by simp) (by simp)
    · simp [e, hpl, hpl', rowB, hple]
      refine ⟨⟨278, [(25, .ref 88 3 0 0), (24, .ref 80 3 0 0), (17, .val (.string y)), (16, .val (.string x)), (15, .val (.bool true)), (11, .ref 64 3 0 0)], _, 96⟩, ?_, s, by omega, ⟨s.bs.take p, s.many, s.gone⟩, by simp; omega, rfl⟩
      refine Wk.trans (Wk.frz [184] (st' := ⟨278, [(25, .ref 192 3 0 0), (24, .ref 160 3 0 0), (17, .val (.string y)), (16, .val (.string x)), (15, .val (.bool true)), (11, .ref 64 3 0 0)],
        [(64, ⟨23, 3, [[.val (.int .i64 t.p.1), .val (.int .i64 t.p.2.1), .val (.int .i64 t.p.2.2)]], .cells⟩), (160, ⟨31, 3, boxT s, .cells⟩), (192, ⟨31, 3, boxT ⟨s.bs.take p, s.many, s.gone⟩, .cells⟩)], _⟩) rfl rfl (by simp) (by simp) (by simp [hple])) ?_
      exact Wk.rn [(64, 64), (160, 80), (192, 88)] rfl (by simp) (by simp) (by simp)
end Go.Proofs.Ythijmjglpcljcaa.Sy
