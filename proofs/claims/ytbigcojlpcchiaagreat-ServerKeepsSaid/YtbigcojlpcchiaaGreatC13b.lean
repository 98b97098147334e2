/- Layer 13: what the kinds of requests do. -/
import Derived.Test.YtbigcojlpcchiaaGreatC13q
namespace Go.Proofs.YtbigcojlpcchiaaGreat.Sy
open Go Go.RowKit
set_option linter.unusedVariables false
set_option linter.unusedSimpArgs false
set_option maxRecDepth 10000
set_option maxHeartbeats 4000000
open Bk (Sto rowsB stoP putS getS delS RightI inB)
abbrev kprO (s : Sto) (lim : Int) : Ob := ⟨71, 4, [rowS s lim], .cells⟩
theorem kstats_call {s : Sto} {lim K : Int} {ls cs : List ByteArray} (h : rightV s lim = true) :
    CallOk Tryz.prog 67 [.ref 0 4 0 0, reqP K ls cs] [(0, kprO s lim)] (resP 0 0 [] s.many (lim - s.many)) [(0, kprO s lim)] := by
  refine .of_exec Tryz.func67 rfl (enters_67) rfl rfl (Nat.le_of_ble_eq_true rfl) pre1 ?_
  obtain ⟨hr, l0, l1, l2⟩ := rightV_iff.1 h
  have hs := Bk.right_small hr
  have w1 : IntKind.i64.wrap (lim - s.many) = lim - s.many := w64 (by omega) (by omega)
  simp [w1]
  exact ⟨rfl, .wkOwn _ (Wk.nilRdB 1 [72]) [(0, 0)] (by simp) (by simp) (by simp) (by simp) (by simp [strs_nil])⟩
abbrev rspB (st : Int) (q : PV) (m : Int) : Ob := ⟨45, 5, [[.val (.int .i64 0), .val (.int .i64 st), q, .val (.int .i64 m), .val (.int .i64 0)]], .cells⟩
def kdel_inv (s : Sto) (lim : Int) (ls : List ByteArray) (m : Nat) (st : St) : Prop := ∃ (i : Nat) (P : Sto) (c : Int), m = ls.length - i ∧ i ≤ ls.length ∧ RightI P ∧ (0 ≤ c ∧ c ≤ i) ∧ delsV s ls 0 = delsV P (ls.drop i) c ∧
  st = ⟨37, [(11, .val (.int .i64 i)), (10, .val (.int .i64 ls.length)), (9, .rd 1 (strs ls)), (4, .ref 72 5 0 0), (0, .ref 0 4 0 0)], [(72, rspB 0 (.val (.slice none 0 0)) c), (0, kprO P lim)], 80⟩
theorem dels_one {s : Sto} (h : RightI s) (l : ByteArray) : RightI (delS s l).1 := by
  rcases Bk.in_dec s l with ⟨c0, h0⟩ | h0
  · obtain ⟨s1, e1, e2, _⟩ := Bk.del_in h h0
    rw [e1]; exact e2
  · rw [Bk.del_not h h0]; exact h
theorem kdel_call {s : Sto} {lim K : Int} {ls cs : List ByteArray} (h : rightV s lim = true) (hn : ls.Nodup) (hl : ls.length ≤ 200) :
    CallOk Tryz.prog 66 [.ref 0 4 0 0, reqP K ls cs] [(0, kprO s lim)] (resP 0 0 [] (delsV s ls 0).2 0) [(0, kprO (delsV s ls 0).1 lim)] := by
  refine .of_exec Tryz.func66 rfl (enters_66) rfl rfl (Nat.le_of_ble_eq_true rfl) pre1 ?_
  obtain ⟨hr, l0, l1, l2⟩ := rightV_iff.1 h
  simp
  refine WPg.loopW (kdel_inv s lim ls) ⟨ls.length, _, ?_, ⟨0, s, 0, by simp, by simp, hr, by simp, by simp, rfl⟩⟩ ?_
  · exact Wk.rn [(72, 72)] rfl (by simp) (by simp) (by simp)
  rintro m st ⟨i, P, c, h1, h2, h3, h4, h5, rfl⟩
  have hPs := rightI_small h3
  by_cases hi : i < ls.length
  · have hi' : (i : Int) < ls.length := by omega
    have hw : IntKind.i64.wrap ((i : Int) + 1) = ((i + 1 : Nat) : Int) := by rw [w64 (by omega) (by omega)]; omega
    have hwc : IntKind.i64.wrap (c + 1) = c + 1 := w64 (by omega) (by omega)
    obtain ⟨x, hx⟩ : ∃ x, ls[i] = x := ⟨_, rfl⟩
    rw [List.drop_eq_getElem_cons hi, hx, delsV] at h5
    have hd := Bk.del_call P x hPs
    have hP' := dels_one h3 x
    generalize delS P x = D at *
    obtain ⟨P', b, e⟩ := D
    simp only at h5 hd hP'
    simp [hi, hi', hx]
    refine .plain hd (by simp) (by simp) ?_
    cases b with
    | true =>
      simp [hwc]
      refine ⟨ls.length - (i + 1), by omega, _, ?_, ⟨i + 1, P', c + 1, rfl, by omega, hP', by omega, by simpa using h5, rfl⟩⟩
      rw [hw]
      exact Wk.rn [(72, 72)] rfl (by simp) (by simp) (by simp)
    | false =>
      simp
      refine ⟨ls.length - (i + 1), by omega, _, ?_, ⟨i + 1, P', c, rfl, by omega, hP', by omega, by simpa using h5, rfl⟩⟩
      rw [hw]
      exact Wk.rn [(72, 72)] rfl (by simp) (by simp) (by simp)
  · obtain rfl : i = ls.length := by omega
    rw [List.drop_length, delsV] at h5
    rw [h5]
    simp
    exact .wkOwn _ (Wk.nilRdB 1 [72]) [(0, 0)] (by simp) (by simp) (by simp) (by simp) (by simp [strs_nil])
abbrev reqB (K : Int) (ls cs : List ByteArray) : Ob := ⟨26, 3, [[.val (.int .i64 K), .rd 1 (strs ls), .rd 1 (strs cs)]], .cells⟩
def kget_inv (s : Sto) (lim K : Int) (ls cs : List ByteArray) (tm : Array Value) (fid : FuncId) (dfs : Nat) (A B : Code) (m : Nat) (st : St) : Prop := ∃ i : Nat, m = ls.length - i ∧ i ≤ ls.length ∧
  ((i = 0 ∧ st = ⟨31, [(10, .val (.int .i64 i)), (9, .val (.int .i64 ls.length)), (8, .rd 1 (strs ls)), (0, .yld 144), (2, .ref 104 1 0 0)],
    [(144, ⟨0, 0, [], .loop ⟨20, [(4, .ref 72 5 0 0), (3, .ref 64 3 0 0), (0, .ref 0 4 0 0)], tm, fid, #[11, 12], A, B, dfs, .ready, none⟩⟩), (104, ⟨68, 1, [[.ref 0 4 0 0]], .cells⟩), (72, rspB 0 (.val (.slice none 0 0)) 0), (64, reqB K ls cs), (0, kprO s lim)], 152⟩) ∨
   (0 < i ∧ st = ⟨31, [(10, .val (.int .i64 i)), (9, .val (.int .i64 ls.length)), (8, .rd 1 (strs ls)), (0, .yld 144), (2, .ref 104 1 0 0)],
    [(144, ⟨0, 0, [], .loop ⟨20, [(4, .ref 72 5 0 0), (3, .ref 64 3 0 0), (0, .ref 0 4 0 0)], tm, fid, #[11, 12], A, B, dfs, .ready, none⟩⟩), (104, ⟨68, 1, [[.ref 0 4 0 0]], .cells⟩), (72, rspB 0 (.sl 152 1 0 i) 0), (152, ⟨9, 1, strs ((getsV s ls).take i), .cells⟩), (64, reqB K ls cs), (0, kprO s lim)], 160⟩))
theorem kget_call {s : Sto} {lim K : Int} {ls cs : List ByteArray} (h : rightV s lim = true) (hl : ls.length ≤ 200) :
    CallOk Tryz.prog 65 [.ref 0 4 0 0, reqP K ls cs] [(0, kprO s lim)] (resP 0 0 (getsV s ls) 0 0) [(0, kprO s lim)] := by
  refine .of_exec Tryz.func65 rfl (enters_65) rfl rfl (Nat.le_of_ble_eq_true rfl) pre1 ?_
  simp
  refine callK.walk (n := 6) (res := [.tmp 4]) Tryz.func93 rfl (enters_93) rfl rfl (by simp) ?_
  simp
  refine WPg.rangeV (by simp) (by simp; rfl) (n := 31) Tryz.func121 rfl (enters_121) rfl (by simp) rfl fun tm fid dfs A B hA hB => ?_
  obtain ⟨hr, l0, l1, l2⟩ := rightV_iff.1 h
  have hPs := rightI_small hr
  have m1 : 1 ≤ maxLen := by decide
  have hCl : (getsV s ls).length = ls.length := List.length_map _
  have hCg : ∀ (i : Nat) (h : i < ls.length) (h' : i < (getsV s ls).length), (getsV s ls)[i] = (getS s ls[i]).1 := fun i h h' => List.getElem_map _
  simp
  refine WPg.loopW (kget_inv s lim K ls cs tm fid dfs A B) ⟨ls.length, _, ?_, ⟨0, by simp, by simp, .inl ⟨rfl, rfl⟩⟩⟩ ?_
  · exact Wk.rn [] rfl (by simp) (by simp) (by simp [RowsOk, RowOk])
  rintro m st ⟨i, h1, h2, h3⟩
  by_cases hi : i < ls.length
  · have hi' : (i : Int) < ls.length := by omega
    have hw : IntKind.i64.wrap ((i : Int) + 1) = ((i + 1 : Nat) : Int) := by rw [w64 (by omega) (by omega)]; omega
    obtain ⟨x, hx⟩ : ∃ x, ls[i] = x := ⟨_, rfl⟩
    have htk : (getsV s ls).take (i + 1) = (getsV s ls).take i ++ [(getS s x).1] := by rw [List.take_add_one, List.getElem?_eq_getElem (by omega), hCg i hi (by omega), hx]; rfl
    have ht2 : ((getsV s ls).take i).take i = (getsV s ls).take i := by rw [List.take_take, Nat.min_self]
    have hmin : min i (getsV s ls).length = i := by omega
    have h16 : i ≤ 140737488355327 ∧ (i + 1) * 16 ≤ 140737488355328 := by omega
    have hg := Bk.get_call s x hPs
    generalize getS s x = G at *
    obtain ⟨y, b⟩ := G
    simp only at htk hg
    rcases h3 with ⟨h4, rfl⟩ | ⟨h4, rfl⟩
    · simp [hi, hi', hx]
      refine .plain hg (by simp) (by simp) ?_
      simp
      refine yieldK.walk (by simp; rfl) rfl rfl (by simp) (by simp) ?_
      simp [hA, hB, m1]
      refine roundK.mk (by simp; rfl) ?_
      simp
      refine ⟨ls.length - 1, by omega, _, ?_, ⟨1, by omega, by omega, .inr ⟨by omega, rfl⟩⟩⟩
      rw [hw]
      subst h4
      have hs1 : strs ((getsV s ls).take 1) = [[.val (.string y)]] := by rw [htk]; rfl
      have ro := rowsV_ok (f := Value.string) (fun _ => rfl) ((getsV s ls).take 1)
      exact Wk.rn [(360, 152)] rfl (by simp) (by simp) (by simp [hs1])
    · simp [hi, hi', hx]
      refine .plain hg (by simp) (by simp) ?_
      simp
      refine yieldK.walk (by simp; rfl) rfl rfl (by simp) (by simp) ?_
      simp [hA, hB, m1, hmin, h16]
      refine roundK.mk (by simp; rfl) ?_
      simp
      refine ⟨ls.length - (i + 1), by omega, _, ?_, ⟨i + 1, by omega, by omega, .inr ⟨by omega, rfl⟩⟩⟩
      rw [hw]
      exact Wk.rn [(368, 152)] rfl (by simp) (by simp) (by simp [htk, ht2])
  · obtain rfl : i = ls.length := by omega
    rcases h3 with ⟨h4, rfl⟩ | ⟨h4, rfl⟩
    · simp
      refine rangeQ.mk (by simp; rfl) rfl rfl (by simp) ?_
      simp
      have hn : getsV s ls = [] := List.eq_nil_of_length_eq_zero (by omega)
      exact .wkOwn _ (Wk.nilRdB 1 [72]) [(0, 0)] (by simp) (by simp) (by simp) (by simp) (by simp [strs_nil, hn])
    · have ht3 : (getsV s ls).take ls.length = getsV s ls := List.take_of_length_le (by omega)
      simp
      refine rangeQ.mk (by simp; rfl) rfl rfl (by simp) ?_
      simp
      exact .wkOwn _ (Wk.frz [152] (st' := ⟨20, [(4, .ref 72 5 0 0)], [(72, rspB 0 (.rd 1 (strs (getsV s ls))) 0), (0, kprO s lim)], _⟩) rfl rfl (by simp) (by simp) (by simp [ht3, hCl])) [(0, 0)] (by simp) (by simp) (by simp) (by simp) (by simp)
def kput_one (s : Sto) (lim K : Int) (ls cs : List ByteArray) (tm : Array Value) (fid : FuncId) (dfs : Nat) (A B : Code) (m : Nat) (st : St) : Prop := ∃ (i : Nat) (n : Int), m = ls.length - i ∧ i ≤ ls.length ∧ (0 ≤ n ∧ n ≤ i) ∧ goesV s ls cs 0 = goesV s (ls.drop i) (cs.drop i) n ∧
  st = ⟨31, [(10, .val (.int .i64 i)), (9, .val (.int .i64 ls.length)), (8, .rd 1 (strs ls)), (0, .yld 160), (2, .ref 120 1 0 0)],
    [(160, ⟨0, 0, [], .loop ⟨75, [(5, .ref 80 1 0 0), (4, .ref 72 5 0 0), (3, .ref 64 3 0 0), (0, .ref 0 4 0 0)], tm, fid, #[14, 15], A, B, dfs, .ready, none⟩⟩), (120, ⟨68, 1, [[.ref 0 4 0 0]], .cells⟩), (80, ⟨3, 1, [[.val (.int .i64 n)]], .cells⟩), (72, rspB 0 (.val (.slice none 0 0)) 0), (64, reqB K ls cs), (0, kprO s lim)], 168⟩
def kput_two (s : Sto) (lim K : Int) (ls cs : List ByteArray) (m : Nat) (st : St) : Prop := ∃ (i : Nat) (P : Sto), m = ls.length - i ∧ i ≤ ls.length ∧ RightI P ∧ putsV s ls cs = putsV P (ls.drop i) (cs.drop i) ∧
  st = ⟨75, [(49, .val (.int .i64 i)), (48, .val (.int .i64 ls.length)), (47, .rd 1 (strs ls)), (4, .ref 72 5 0 0), (3, .ref 64 3 0 0), (0, .ref 0 4 0 0)], [(72, rspB 0 (.val (.slice none 0 0)) 0), (64, reqB K ls cs), (0, kprO P lim)], 80⟩
theorem kput_call {s : Sto} {lim K : Int} {ls cs : List ByteArray} (h : rightV s lim = true) (hq : rightQ K ls cs = true) (h1 : K = 1) :
    CallOk Tryz.prog 64 [.ref 0 4 0 0, reqP K ls cs] [(0, kprO s lim)] (resP 0 (putV s lim ls cs).2 [] 0 0) [(0, kprO (putV s lim ls cs).1 lim)] := by
  refine .of_exec Tryz.func64 rfl (enters_64) rfl rfl (Nat.le_of_ble_eq_true rfl) pre1 ?_
  simp
  refine callK.walk (n := 6) (res := [.tmp 4]) Tryz.func93 rfl (enters_93) rfl rfl (by simp) ?_
  simp
  refine WPg.rangeV (by simp) (by simp; rfl) (n := 31) Tryz.func121 rfl (enters_121) rfl (by simp) rfl fun tm fid dfs A B hA hB => ?_
  obtain ⟨hr, l0, l1, l2⟩ := rightV_iff.1 h
  obtain ⟨f1, f2, f3, f4, f5, f6, f7, g1, _⟩ := right_facts hq
  have hlen := g1 h1
  have hPs := rightI_small hr
  have hsm := Bk.right_small hr
  have hpv : putV s lim ls cs = match goesV s ls cs 0 with
    | none => (s, 2)
    | some m => if lim < s.many + m then (s, 1) else (putsV s ls cs, 0) := rfl
  simp
  refine WPg.loopW (kput_one s lim K ls cs tm fid dfs A B) ⟨ls.length, _, ?_, ⟨0, 0, by simp, by simp, by simp, by simp, rfl⟩⟩ ?_
  · exact Wk.rn [] rfl (by simp) (by simp) (by simp [RowsOk, RowOk])
  rintro m st ⟨i, n, k1, k2, k3, k4, rfl⟩
  by_cases hi : i < ls.length
  · have hi' : (i : Int) < ls.length := by omega
    have hic : i < cs.length := by omega
    have hic' : (i : Int) < cs.length := by omega
    have hw : IntKind.i64.wrap ((i : Int) + 1) = ((i + 1 : Nat) : Int) := by rw [w64 (by omega) (by omega)]; omega
    have hwn : IntKind.i64.wrap (n + 1) = n + 1 := w64 (by omega) (by omega)
    obtain ⟨x, hx⟩ : ∃ x, ls[i] = x := ⟨_, rfl⟩
    obtain ⟨y, hy⟩ : ∃ y, cs[i] = y := ⟨_, rfl⟩
    rw [List.drop_eq_getElem_cons hi, List.drop_eq_getElem_cons hic, hx, hy, goesV] at k4
    have hg := Bk.get_call s x hPs
    generalize getS s x = G at *
    obtain ⟨z, b⟩ := G
    simp only at k4 hg
    simp [hi, hi', hx]
    refine .plain hg (by simp) (by simp) ?_
    simp
    refine yieldK.walk (by simp; rfl) rfl rfl (by simp) (by simp) ?_
    by_cases c1 : z = ⟨#[]⟩
    · rw [if_pos c1] at k4
      simp [hA, hB, c1, hwn]
      refine roundK.mk (by simp; rfl) ?_
      simp
      refine ⟨ls.length - (i + 1), by omega, _, ?_, ⟨i + 1, n + 1, rfl, by omega, by omega, k4, rfl⟩⟩
      rw [hw]
      exact Wk.rn [] rfl (by simp) (by simp) (by simp [RowsOk, RowOk])
    · rw [if_neg c1] at k4
      by_cases c2 : z = y
      · rw [if_pos c2] at k4
        subst c2
        simp [hA, hB, c1, hi, hi', hic, hic', hy]
        refine roundK.mk (by simp; rfl) ?_
        simp
        refine ⟨ls.length - (i + 1), by omega, _, ?_, ⟨i + 1, n, rfl, by omega, by omega, k4, rfl⟩⟩
        rw [hw]
        exact Wk.rn [] rfl (by simp) (by simp) (by simp [RowsOk, RowOk])
      · rw [if_neg c2] at k4
        rw [k4] at hpv
        simp [hA, hB, c1, c2, hi, hi', hic, hic', hy]
        refine roundK.mk (by simp; rfl) ?_
        simp
        refine rangeQ.mk (by simp; rfl) rfl rfl (by simp) ?_
        simp
        exact .wkOwn _ (Wk.nilRdB 1 [72]) [(0, 0)] (by simp) (by simp) (by simp [hpv]) (by simp) (by simp [strs_nil, hpv])
  · obtain rfl : i = ls.length := by omega
    rw [List.drop_length] at k4
    have k4' : goesV s ls cs 0 = some n := by rw [k4]; cases cs.drop ls.length <;> rfl
    rw [k4'] at hpv
    simp only at hpv
    have hwm : IntKind.i64.wrap (s.many + n) = s.many + n := w64 (by omega) (by omega)
    simp
    refine rangeQ.mk (by simp; rfl) rfl rfl (by simp) ?_
    by_cases c3 : lim < s.many + n
    · rw [if_pos c3] at hpv
      simp [hwm, c3]
      exact ⟨rfl, .wkOwn _ (Wk.nilRdB 1 [72]) [(0, 0)] (by simp) (by simp) (by simp [hpv]) (by simp) (by simp [strs_nil, hpv])⟩
    · rw [if_neg c3] at hpv
      rw [hpv]
      simp [hwm, c3]
      refine ⟨rfl, ?_⟩
      refine WPg.loopW (kput_two s lim K ls cs) ⟨ls.length, _, ?_, ⟨0, s, by simp, by simp, hr, by simp, rfl⟩⟩ ?_
      · exact Wk.rn [(72, 72), (64, 64)] rfl (by simp) (by simp) (by simp)
      rintro m st ⟨i, P, p1, p2, p3, p4, rfl⟩
      have hPP := rightI_small p3
      by_cases hi : i < ls.length
      · have hi' : (i : Int) < ls.length := by omega
        have hic : i < cs.length := by omega
        have hic' : (i : Int) < cs.length := by omega
        have hw : IntKind.i64.wrap ((i : Int) + 1) = ((i + 1 : Nat) : Int) := by rw [w64 (by omega) (by omega)]; omega
        obtain ⟨x, hx⟩ : ∃ x, ls[i] = x := ⟨_, rfl⟩
        obtain ⟨y, hy⟩ : ∃ y, cs[i] = y := ⟨_, rfl⟩
        have hx16 := f3 x (by rw [← hx]; exact List.getElem_mem _)
        have hy40 := f4 y (by rw [← hy]; exact List.getElem_mem _)
        rw [List.drop_eq_getElem_cons hi, List.drop_eq_getElem_cons hic, hx, hy, putsV] at p4
        have hp := Bk.put_call P x y hPP
        have hR := Bk.put_right p3 hx16 hy40
        generalize putS P x y = D at *
        obtain ⟨P', e⟩ := D
        simp only at p4 hp hR
        simp [hi, hi', hic, hic', hx, hy]
        refine callT.plain hp (by simp) (by simp) ?_
        simp
        refine ⟨rfl, ls.length - (i + 1), by omega, _, ?_, ⟨i + 1, P', by omega, by omega, hR, p4, rfl⟩⟩
        rw [hw]
        exact Wk.rn [(72, 72), (64, 64)] rfl (by simp) (by simp) (by simp)
      · obtain rfl : i = ls.length := by omega
        rw [List.drop_length] at p4
        have p4' : putsV s ls cs = P := by rw [p4]; cases cs.drop ls.length <;> rfl
        rw [p4']
        simp
        exact .wkOwn _ (Wk.nilRdB 1 [72]) [(0, 0)] (by simp) (by simp) (by simp) (by simp) (by simp [strs_nil])
end Go.Proofs.YtbigcojlpcchiaaGreat.Sy
