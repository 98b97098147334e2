/- Layer 13: the law ServerKeeps. -/
import Derived.Test.YtbigcojlpcchiaaGreatC13l
import Derived.Test.YtbigcojlpcchiaaGreatC13kp
namespace Go.Proofs.YtbigcojlpcchiaaGreat.Sy
open Go Go.RowKit
set_option linter.unusedVariables false
set_option linter.unusedSimpArgs false
set_option maxRecDepth 10000
set_option maxHeartbeats 16000000
open Bk (Sto rowsB stoP putS getS delS RightI inB)
@[simp] theorem names0_scal (P : Program) (ev : Operand → PV) (o : Oper) : names0 (scal P ev o).v = [] := by
  unfold scal
  split
  · unfold cvt; split <;> rfl
  · rfl
@[simp] theorem names0_aBin (P : Program) (op : BinOp) (t : TypeId) (x y : Operand) (p q : PV) (ev : Operand → PV) (o : Oper) : names0 (aBin P op t x y p q (scal P ev o)).v = [] := by
  unfold aBin
  split
  · split
    · rfl
    · exact names0_scal ..
  · exact names0_scal ..
@[simp] theorem names0_aUn (P : Program) (op : UnOp) (p : PV) (ev : Operand → PV) (o : Oper) : names0 (aUn op p (scal P ev o)).v = [] := by
  unfold aUn
  split
  · split
    · rfl
    · exact names0_scal ..
  · exact names0_scal ..
abbrev keepSt (limit : Int) (raw : List (List Int)) (n : Int) (i : Nat) (s : Sto) (L C : List ByteArray) : St :=
  ⟨247, [(10, .val (.int .i64 i)), (9, .sl 80 1 0 C.length), (8, .sl 72 1 0 L.length), (6, .ref 64 4 0 0), (5, .val (.bool true)), (1, .rd 1 (rowsRR raw)), (0, .val (.int .i64 limit))], [(64, srvO s n), (72, strB L), (80, strB C)], 88⟩
def keep_out (limit : Int) (raw : List (List Int)) (n : Int) (m : Nat) (st : St) : Prop := ∃ (i : Nat) (s : Sto) (L C : List ByteArray), m = raw.length - i ∧ i ≤ raw.length ∧ i ≤ 12 ∧ rightV s n = true ∧ KeepI s L C ∧ st = keepSt limit raw n i s L C
abbrev rspO13 (a : RspW) : Ob := ⟨45, 5, [[.val (.int .i64 a.k), .val (.int .i64 a.st), .rd 1 (strs a.cs), .val (.int .i64 a.m), .val (.int .i64 a.r)]], .cells⟩
def keep_mid (limit : Int) (raw : List (List Int)) (n : Int) (i : Nat) (s : Sto) (K : Int) (ls cs : List ByteArray) (m : Nat) (st : St) : Prop := ∃ (k : Nat) (L C : List ByteArray), m = ls.length - k ∧ k ≤ ls.length ∧ KeepI (keptS s K (doV s n K ls cs).2.st ls cs k) L C ∧
  st = ⟨247, [(15, .val (.int .i64 k)), (14, .val (.int .i64 (keptM s K ls k))), (13, .ref 104 5 0 0), (12, .ref 96 4 0 0), (11, .ref 88 3 0 0), (10, .val (.int .i64 i)), (9, .sl 80 1 0 C.length), (8, .sl 72 1 0 L.length), (6, .ref 64 4 0 0), (5, .val (.bool true)), (1, .rd 1 (rowsRR raw)), (0, .val (.int .i64 limit))],
    [(64, srvO s n), (72, strB L), (80, strB C), (88, reqC13 K ls cs), (96, srvO (doV s n K ls cs).1 n), (104, rspO13 (doV s n K ls cs).2)], 112⟩
def keep_in (limit : Int) (raw : List (List Int)) (n : Int) (i : Nat) (s : Sto) (K : Int) (ls cs : List ByteArray) (k : Nat) (L C : List ByteArray) (x : ByteArray) (m : Nat) (st : St) : Prop := ∃ (j : Nat) (a : Int), m = L.length - j ∧ j ≤ L.length ∧ foundI L x j a ∧
  st = ⟨247, [(17, .val (.int .i64 j)), (16, .val (.int .i64 a)), (15, .val (.int .i64 k)), (14, .val (.int .i64 (keptM s K ls k))), (13, .ref 104 5 0 0), (12, .ref 96 4 0 0), (11, .ref 88 3 0 0), (10, .val (.int .i64 i)), (9, .sl 80 1 0 C.length), (8, .sl 72 1 0 L.length), (6, .ref 64 4 0 0), (5, .val (.bool true)), (1, .rd 1 (rowsRR raw)), (0, .val (.int .i64 limit))],
    [(64, srvO s n), (72, strB L), (80, strB C), (88, reqC13 K ls cs), (96, srvO (doV s n K ls cs).1 n), (104, rspO13 (doV s n K ls cs).2)], 112⟩
theorem keeps_call {limit : Int} {raw : List (List Int)} (hl : isI64 limit) (hr : rawOk raw) : CallOk Tryz.prog 4 [.val (.int .i64 limit), .rd 1 (rowsRR raw)] [] (.val (.bool true)) [] := by
  refine .of_run Tryz.func4 rfl (enters_4) rfl rfl (Nat.le_of_ble_eq_true rfl) (fun n _ => rfl) ?_
  have hp := pickI_range (c := limit) (n := 40) (by omega)
  have hpk := pick13_call (c := limit) (n := 40) hl (by omega)
  generalize pickI limit 40 = n at *
  have hn := snew_call n
  have e : newV n = (Bk.freshS 8, n, 0) := if_neg (by omega)
  rw [e] at hn
  have hnr := new_right (lim := n) (by omega)
  have hk0 := keep_new (n := 8) (by decide)
  generalize Bk.freshS 8 = s0 at *
  have m1 : 1 ≤ maxLen := by decide
  refine .run ?_
  simp
  refine .plain awake13_call (by simp) (by simp) ?_
  simp
  refine .plain hpk (by simp) (by simp) ?_
  simp
  refine .plain hn (by simp) (by simp) ?_
  simp
  refine WPg.loopW (keep_out limit raw n) ⟨raw.length, _, ?_, ⟨0, s0, [], [], by simp, by simp, by simp, hnr, hk0, rfl⟩⟩ ?_
  · refine (Wk.nil [8] [] 9 1).trans ((Wk.nil [9] [] 9 1).trans ?_)
    exact Wk.rn [(136, 64), (200, 72), (208, 80)] rfl (by simp) (by simp) (by simp [strs_nil])
  rintro m st ⟨i, s, L, C, h1, h2, h3, h4, h5, rfl⟩
  by_cases hi : i < raw.length ∧ i < 12
  · have hi1 : (i : Int) < raw.length := by omega
    have hi2 : (i : Int) < 12 := by omega
    have hw : IntKind.i64.wrap ((i : Int) + 1) = ((i + 1 : Nat) : Int) := by rw [w64 (by omega) (by omega)]; omega
    obtain ⟨x, hx⟩ : ∃ x, raw[i]'hi.1 = x := ⟨_, rfl⟩
    have hxo := hr.2 x (by rw [← hx]; exact List.getElem_mem _)
    have hxr := r13_right x
    have hR := req13_call hxo.1 hxo.2
    generalize r13K x = K at *
    generalize r13L x = ls at *
    generalize r13C x = cs at *
    obtain ⟨f1, f2, f3, f4, f5, f6, f7, g1, g4, g2⟩ := right_facts hxr
    have hs := rightI_small (rightV_iff.1 h4).1
    have hD := Do_call (s := s) (lim := n) (K := K) (ls := ls) (cs := cs) hs ⟨by omega, by omega⟩ (by omega) (by omega)
    have h4' := do_right (k := K) (ls := ls) (cs := cs) h4
    obtain ⟨e1, e2, e3, e4, e5, e6⟩ := kept_end hxr h4
    have e7 := do_kind hxr h4
    have e8 := fun (h : K = 1) (hst : (doV s n K ls cs).2.st = 0) => h
    have hz := kept_zero s K (doV s n K ls cs).2.st ls cs
    obtain ⟨hr4, l0, l1, l2⟩ := rightV_iff.1 h4
    have hsm := Bk.right_small hr4
    have hLs := h5.many
    simp [hi.1, hi.2, hi1, hi2, hx]
    refine .plain hR (by simp) (by simp) ?_
    simp
    refine .plain hD (by simp) (by simp) ?_
    simp
    refine WPg.loopW (keep_mid limit raw n i s K ls cs) ⟨ls.length, _, ?_, ⟨0, L, C, by simp, by simp, by rw [hz.1]; exact h5, rfl⟩⟩ ?_
    · exact Wk.rn [(64, 64), (72, 72), (80, 80), (192, 88), (256, 96), (264, 104)] rfl (by simp) (by simp [hz.2]) (by simp)
    rintro m' st' ⟨k, L', C', k1, k2, k3, rfl⟩
    have hLm := k3.many
    have hCl := k3.len
    obtain ⟨_, _, hm0, hm1, _, _⟩ := Bk.right_small k3.right
    have hLb : L'.length ≤ 4096 := by omega
    by_cases hk : k < ls.length
    · have hk' : (k : Int) < ls.length := by omega
      have hwk : IntKind.i64.wrap ((k : Int) + 1) = ((k + 1 : Nat) : Int) := by rw [w64 (by omega) (by omega)]; omega
      obtain ⟨y, hy⟩ : ∃ y, ls[k] = y := ⟨_, rfl⟩
      simp [hk, hk', hy]
      refine WPg.loopW (keep_in limit raw n i s K ls cs k L' C' y) ⟨L'.length, _, ?_, ⟨0, -1, by simp, by simp, .inl ⟨rfl, by simp⟩, rfl⟩⟩ ?_
      · exact Wk.rn [(64, 64), (72, 72), (80, 80), (88, 88), (96, 96), (104, 104)] rfl (by simp) (by simp) (by simp)
      rintro m2 st2 ⟨j, a, j1, j2, j3, rfl⟩
      by_cases hj : j < L'.length
      · have hj' : (j : Int) < L'.length := by omega
        have hwj : IntKind.i64.wrap ((j : Int) + 1) = ((j + 1 : Nat) : Int) := by rw [w64 (by omega) (by omega)]; omega
        have hstep := found_step j3 hj
        by_cases e : L'[j] = y
        · rw [if_pos e] at hstep
          simp [hj, hj', hk, hk', hy, e]
          refine ⟨rfl, L'.length - (j + 1), by omega, _, ?_, ⟨j + 1, _, rfl, by omega, hstep, rfl⟩⟩
          rw [hwj]
          exact Wk.rn [(64, 64), (72, 72), (80, 80), (88, 88), (96, 96), (104, 104)] rfl (by simp) (by simp) (by simp)
        · rw [if_neg e] at hstep
          simp [hj, hj', hk, hk', hy, e]
          refine ⟨rfl, L'.length - (j + 1), by omega, _, ?_, ⟨j + 1, _, rfl, by omega, hstep, rfl⟩⟩
          rw [hwj]
          exact Wk.rn [(64, 64), (72, 72), (80, 80), (88, 88), (96, 96), (104, 104)] rfl (by simp) (by simp) (by simp)
      · obtain rfl : j = L'.length := by omega
        have hK4 : K ≠ 4 := fun e => by have := (g4 e).2; rw [this] at hk; simp at hk
        have hK : K = 1 ∨ K = 2 ∨ K = 3 := by omega
        have hmc := hCl
        rcases j3 with ⟨rfl, hno⟩ | ⟨p, hp, rfl, _, hpx⟩
        · rw [List.take_length] at hno
          rcases hK with rfl | rfl | rfl
          · have hcl := g1 rfl
            have hck : k < cs.length := by omega
            obtain ⟨z, hzz⟩ : ∃ z, cs[k] = z := ⟨_, rfl⟩
            have b1 : L'.length ≤ 140737488355327 := by omega
            have b2 : (L'.length + 1) * 16 ≤ 140737488355328 := by omega
            have b3 : C'.length ≤ 140737488355327 := by omega
            have b4 : (C'.length + 1) * 16 ≤ 140737488355328 := by omega
            by_cases hst : (doV s n 1 ls cs).2.st = 0
            · rw [hst] at k3
              have hk3 := keep_step_put hxr h4 hst hk hck k3 (by rw [hy]; exact hno)
              simp [hk, hk', hy, hst, hck, hzz, m1, b1, b2, b3, b4]
              refine ⟨ls.length - (k + 1), by omega, _, ?_, ⟨k + 1, L' ++ [y], C' ++ [z], rfl, by omega, by rw [hst]; rw [hy, hzz] at hk3; exact hk3, rfl⟩⟩
              rw [hwk, keptM_ne (by omega) (k + 1), keptM_ne (by omega) k]
              exact Wk.rn [(64, 64), (568, 72), (640, 80), (88, 88), (96, 96), (104, 104)] rfl (by simp) (by simp) (by simp)
            · have hk3 := keep_step_none (i := k) (by simp [hst]) (by omega) k3
              simp [hk, hk', hy, hst]
              refine ⟨ls.length - (k + 1), by omega, _, ?_, ⟨k + 1, L', C', rfl, by omega, hk3.1, rfl⟩⟩
              rw [hwk, hk3.2]
              exact Wk.rn [(64, 64), (72, 72), (80, 80), (88, 88), (96, 96), (104, 104)] rfl (by simp) (by simp) (by simp)
          · have hk3 := keep_step_none (i := k) (by simp) (by omega) k3
            have e5' := e5 rfl
            have hks := kept_same (s := s) (k := 2) (st := (doV s n 2 ls cs).2.st) (ls := ls) (cs := cs) (by simp) (by omega) k
            rw [hks.1] at k3
            have hget := (keep_get k3 (x := y)).2 hno
            have hgl : (getsV s ls).length = ls.length := by simp [getsV]
            have hgk : (getsV s ls)[k]'(by rw [hgl]; exact hk) = ⟨#[]⟩ := by simp [getsV, hy, hget]
            simp [hk, hk', hy, e5', hgl, hgk]
            refine ⟨ls.length - (k + 1), by omega, _, ?_, ⟨k + 1, L', C', rfl, by omega, hk3.1, rfl⟩⟩
            rw [hwk, hk3.2]
            exact Wk.rn [(64, 64), (72, 72), (80, 80), (88, 88), (96, 96), (104, 104)] rfl (by simp) (by simp) (by simp)
          · obtain ⟨hk3, hm3⟩ := keep_step_miss hk k3 (by rw [hy]; exact hno)
            simp [hk, hk', hy]
            refine ⟨ls.length - (k + 1), by omega, _, ?_, ⟨k + 1, L', C', rfl, by omega, hk3, rfl⟩⟩
            rw [hwk, hm3]
            exact Wk.rn [(64, 64), (72, 72), (80, 80), (88, 88), (96, 96), (104, 104)] rfl (by simp) (by simp) (by simp)
        · have hpC : p < C'.length := by omega
          have hp' : (p : Int) < C'.length := by omega
          obtain ⟨u, hu⟩ : ∃ u, C'[p] = u := ⟨_, rfl⟩
          rcases hK with rfl | rfl | rfl
          · have hcl := g1 rfl
            have hck : k < cs.length := by omega
            obtain ⟨z, hzz⟩ : ∃ z, cs[k] = z := ⟨_, rfl⟩
            by_cases hst : (doV s n 1 ls cs).2.st = 0
            · rw [hst] at k3
              obtain ⟨hk3, hcz⟩ := keep_step_same hxr h4 hst hk hck k3 hp (by rw [hy]; exact hpx)
              rw [hu, hzz] at hcz
              subst hcz
              have np : ¬ (p : Int) < 0 := by omega
              simp [hk, hk', hy, hst, hck, hzz, hpC, hp', hu, np]
              refine ⟨ls.length - (k + 1), by omega, _, ?_, ⟨k + 1, L', C', rfl, by omega, by rw [hst]; exact hk3, rfl⟩⟩
              rw [hwk, keptM_ne (by omega) (k + 1), keptM_ne (by omega) k]
              exact Wk.rn [(64, 64), (72, 72), (80, 80), (88, 88), (96, 96), (104, 104)] rfl (by simp) (by simp) (by simp)
            · have hk3 := keep_step_none (i := k) (by simp [hst]) (by omega) k3
              simp [hk, hk', hy, hst, hpC, hp', hu]
              refine ⟨ls.length - (k + 1), by omega, _, ?_, ⟨k + 1, L', C', rfl, by omega, hk3.1, rfl⟩⟩
              rw [hwk, hk3.2]
              exact Wk.rn [(64, 64), (72, 72), (80, 80), (88, 88), (96, 96), (104, 104)] rfl (by simp) (by simp) (by simp)
          · have hk3 := keep_step_none (i := k) (by simp) (by omega) k3
            have e5' := e5 rfl
            have hks := kept_same (s := s) (k := 2) (st := (doV s n 2 ls cs).2.st) (ls := ls) (cs := cs) (by simp) (by omega) k
            rw [hks.1] at k3
            have hget := (keep_get k3 (x := y)).1 p hp hpx
            have hgl : (getsV s ls).length = ls.length := by simp [getsV]
            have hgk : (getsV s ls)[k]'(by rw [hgl]; exact hk) = u := by simp [getsV, hy, hget, hu]
            simp [hk, hk', hy, e5', hgl, hgk, hpC, hp', hu]
            refine ⟨ls.length - (k + 1), by omega, _, ?_, ⟨k + 1, L', C', rfl, by omega, hk3.1, rfl⟩⟩
            rw [hwk, hk3.2]
            exact Wk.rn [(64, 64), (72, 72), (80, 80), (88, 88), (96, 96), (104, 104)] rfl (by simp) (by simp) (by simp)
          · obtain ⟨hk3, hm3⟩ := keep_step_del hk k3 hp (by rw [hy]; exact hpx)
            have hmr := keptM_range (s := s) (K := 3) hr4 f5 k
            have wp1 : IntKind.i64.wrap ((p : Int) + 1) = ((p + 1 : Nat) : Int) := by rw [w64 (by omega) (by omega)]; omega
            have wm1 : IntKind.i64.wrap (keptM s 3 ls k + 1) = keptM s 3 ls k + 1 := w64 (by omega) (by omega)
            have p1 : min p L'.length = p := by omega
            have p2 : min p C'.length = p := by omega
            have p3 : p ≤ L'.length := by omega
            have p4 : p ≤ C'.length := by omega
            have p5 : (0 : Int) ≤ ((p + 1 : Nat) : Int) := by omega
            have p6 : ((p + 1 : Nat) : Int) ≤ L'.length := by omega
            have p7 : ((p + 1 : Nat) : Int) ≤ C'.length := by omega
            have p8 : p + 1 + (L'.length - (p + 1)) ≤ L'.length := by omega
            have p9 : p + 1 + (C'.length - (p + 1)) ≤ C'.length := by omega
            have q1 : p ≤ 140737488355328 := by omega
            have q2 : p * 16 ≤ 140737488355328 := by omega
            have q3 : p + (L'.length - (p + 1)) ≤ 140737488355328 := by omega
            have q4 : (p + (L'.length - (p + 1))) * 16 ≤ 140737488355328 := by omega
            have q5 : p + (C'.length - (p + 1)) ≤ 140737488355328 := by omega
            have q6 : (p + (C'.length - (p + 1))) * 16 ≤ 140737488355328 := by omega
            simp only [List.drop_eq_nil_iff, Int.toNat_natCast]
            simp [hk, hk', hy, hpC, hp', hu, wp1, wm1, p1, p2, p3, p4, p5, p6, p7, p8, p9, q1, q2, q3, q4, q5, q6, -Int.natCast_add]
            have o1 : L'.take p ++ L'.drop (p + 1) = List.take p (List.take p L') ++ List.take (L'.length - (p + 1)) (List.drop (p + 1) L') := by
              rw [List.take_take, Nat.min_self, List.take_of_length_le (l := List.drop (p + 1) L') (by rw [List.length_drop]; omega)]
            have o2 : C'.take p ++ C'.drop (p + 1) = List.take p (List.take p C') ++ List.take (C'.length - (p + 1)) (List.drop (p + 1) C') := by
              rw [List.take_take, Nat.min_self, List.take_of_length_le (l := List.drop (p + 1) C') (by rw [List.length_drop]; omega)]
            have o3 : (List.take p (List.take p L') ++ List.take (L'.length - (p + 1)) (List.drop (p + 1) L')).length = p + (L'.length - (p + 1)) := by rw [← o1, List.length_append, List.length_take, List.length_drop]; omega
            have o4 : (List.take p (List.take p C') ++ List.take (C'.length - (p + 1)) (List.drop (p + 1) C')).length = p + (C'.length - (p + 1)) := by rw [← o2, List.length_append, List.length_take, List.length_drop]; omega
            rw [o1, o2] at hk3
            refine ⟨rfl, rfl, ls.length - (k + 1), by omega, _, ?_, ⟨k + 1, _, _, rfl, by omega, hk3, rfl⟩⟩
            rw [hwk, hm3, o3, o4]
            exact Wk.rn [(64, 64), (536, 72), (616, 80), (88, 88), (96, 96), (104, 104)] rfl (by simp) (by simp) (by simp)
    · obtain rfl : k = ls.length := by omega
      rw [e1] at k3
      have hs' := do_len s n K ls cs hs
      have hss := ssame_call (lim := n) hs
      have hrr := sright_call (lim := n) hs'
      rw [h4'] at hrr
      have hne := (keptM_range (s := s) (K := K) hr4 f5 ls.length)
      have hKK : K = 1 ∨ K = 2 ∨ K = 3 ∨ K = 4 := by omega
      have hkm : K ≠ 3 → keptM s K ls ls.length = 0 := fun h => keptM_ne h _
      have hdm : K = 1 ∨ K = 2 → (doV s n K ls cs).2.m = 0 := fun h => by
        rw [do_of hxr h4]
        rcases h with h | h
        · rw [if_pos h]
        · rw [if_neg (by omega), if_pos h]
      have hLs' : (L'.length : Int) ≤ 4096 := by omega
      rcases hKK with rfl | rfl | rfl | rfl
      · have z1 := hkm (by omega)
        have z2 := hdm (.inl rfl)
        by_cases hst : (doV s n 1 ls cs).2.st = 0
        · simp [e7, hst, z1, z2]
          refine callT.plain hrr (by simp) (by simp) ?_
          simp
          refine ⟨rfl, raw.length - (i + 1), by omega, _, ?_, ⟨i + 1, _, L', C', rfl, by omega, by omega, h4', k3, rfl⟩⟩
          rw [hw]
          exact Wk.rn [(64, 64), (72, 72), (80, 80)] rfl (by simp) (by simp) (by simp)
        · have hsame := e3 hst
          have hss' : CallOk Tryz.prog 12 [srvP s n, srvP (doV s n 1 ls cs).1 n] [] (.val (.bool true)) [] := by rw [hsame]; exact hss
          simp [e7, hst, z1, z2]
          refine callT.plain hss' (by simp) (by simp) ?_
          simp
          refine callT.plain hrr (by simp) (by simp) ?_
          simp
          refine ⟨rfl, raw.length - (i + 1), by omega, _, ?_, ⟨i + 1, _, L', C', rfl, by omega, by omega, h4', k3, rfl⟩⟩
          rw [hw]
          exact Wk.rn [(64, 64), (72, 72), (80, 80)] rfl (by simp) (by simp) (by simp)
      · have z1 := hkm (by omega)
        have z2 := hdm (.inr rfl)
        have hst := e6 (by omega)
        simp [e7, hst, z1, z2]
        refine callT.plain hrr (by simp) (by simp) ?_
        simp
        refine ⟨rfl, raw.length - (i + 1), by omega, _, ?_, ⟨i + 1, _, L', C', rfl, by omega, by omega, h4', k3, rfl⟩⟩
        rw [hw]
        exact Wk.rn [(64, 64), (72, 72), (80, 80)] rfl (by simp) (by simp) (by simp)
      · have hst := e6 (by omega)
        have hm := e2 rfl
        simp [e7, hst, hm]
        refine callT.plain hrr (by simp) (by simp) ?_
        simp
        refine ⟨rfl, raw.length - (i + 1), by omega, _, ?_, ⟨i + 1, _, L', C', rfl, by omega, by omega, h4', k3, rfl⟩⟩
        rw [hw]
        exact Wk.rn [(64, 64), (72, 72), (80, 80)] rfl (by simp) (by simp) (by simp)
      · have z1 := hkm (by omega)
        have hst := e6 (by omega)
        obtain ⟨d1, d2, d3⟩ := e4 rfl
        have hmL : s.many = L'.length := by have := k3.many; rw [d3] at this; exact this
        have wr : IntKind.i64.wrap (n - s.many) = n - s.many := w64 (by omega) (by omega)
        by_cases hz : s.many = 0
        · have hwL : IntKind.i64.wrap (n - (L'.length : Int)) = n := by rw [← hmL, wr, hz]; omega
          simp [e7, hst, d1, d2, z1, ← hmL, hz]
          refine callT.plain hpk (by simp) (by simp) ?_
          simp [hwL, hst]
          refine callT.plain hrr (by simp) (by simp) ?_
          simp
          refine ⟨rfl, raw.length - (i + 1), by omega, _, ?_, ⟨i + 1, _, L', C', rfl, by omega, by omega, h4', k3, rfl⟩⟩
          rw [hw]
          exact Wk.rn [(64, 64), (72, 72), (80, 80)] rfl (by simp) (by simp) (by simp)
        · have hwL : IntKind.i64.wrap (n - (L'.length : Int)) = n - s.many := by rw [← hmL, wr]
          simp [e7, hst, d1, d2, z1, ← hmL, hz]
          refine callT.plain hpk (by simp) (by simp) ?_
          simp [hwL, hst]
          refine callT.plain hrr (by simp) (by simp) ?_
          simp
          refine ⟨rfl, raw.length - (i + 1), by omega, _, ?_, ⟨i + 1, _, L', C', rfl, by omega, by omega, h4', k3, rfl⟩⟩
          rw [hw]
          exact Wk.rn [(64, 64), (72, 72), (80, 80)] rfl (by simp) (by simp) (by simp)
  · by_cases hi1 : i < raw.length
    · have hi2 : ¬ (i : Int) < 12 := by omega
      have hi1' : (i : Int) < raw.length := by omega
      have hend : s.many = L.length := h5.many
      have hend2 : (L.length : Int) ≤ n := by have := (rightV_iff.1 h4).2.2.2; omega
      simp [hi1, hi1', hi2, hend]
      refine .plain hpk (by simp) (by simp) ?_
      simp [hend2]
      exact .plain (by simp) (by simp)
    · have hi1' : ¬ (i : Int) < raw.length := by omega
      have hend : s.many = L.length := h5.many
      have hend2 : (L.length : Int) ≤ n := by have := (rightV_iff.1 h4).2.2.2; omega
      simp [hi1, hi1', hend]
      refine .plain hpk (by simp) (by simp) ?_
      simp [hend2]
      exact .plain (by simp) (by simp)
end Go.Proofs.YtbigcojlpcchiaaGreat.Sy
