/- Layer 11: the law WireBack. -/
import Derived.Test.YtidaedchmjlbfaaC11aw
import Derived.Test.YtidaedchmjlbfaaC11z
namespace Go.Proofs.Ytidaedchmjlbfaa.Sy
open Go Go.RowKit
set_option linter.unusedVariables false
set_option linter.unusedSimpArgs false
set_option maxRecDepth 10000
set_option maxHeartbeats 16000000
theorem decQ_bds (s : ByteArray) : isI64 (decQ s).1 ∧ (decQ s).2.1.length ≤ 1000 ∧ (decQ s).2.2.1.length ≤ 1000 := by
  unfold decQ
  split
  · exact ⟨takeN_i64 _ _ _, takeL_len _ _ _, takeL_len _ _ _⟩
  · exact ⟨⟨by simp, by simp⟩, by simp, by simp⟩
theorem readA_bds (s : ByteArray) : isI64 (readA s).k ∧ isI64 (readA s).st ∧ isI64 (readA s).m ∧ isI64 (readA s).r ∧ (readA s).cs.length ≤ 1000 := by
  unfold readA
  split
  · exact ⟨takeN_i64 _ _ _, takeN_i64 _ _ _, takeN_i64 _ _ _, takeN_i64 _ _ _, takeL_len _ _ _⟩
  · exact ⟨⟨by simp, by simp⟩, ⟨by simp, by simp⟩, ⟨by simp, by simp⟩, ⟨by simp, by simp⟩, by simp⟩
def bk_out (X : List ByteArray) (m : ByteArray) (at' : Int) (k : Nat) (st : St) : Prop := ∃ i : Nat, k = 2 - i ∧ i ≤ 2 ∧
  st = ⟨176, [(97, .val (.int .i64 i)), (96, .val (.int .i64 2)), (95, .sl 64 1 0 2), (22, .val (.string m)), (11, .val (.bool true)), (4, .val (.int .i64 at'))], [(64, strO X)], 72⟩
def bk_in (X Y : List ByteArray) (m : ByteArray) (at' : Int) (i : Nat) (k : Nat) (st : St) : Prop := ∃ j : Nat, k = 2 - j ∧ j ≤ 2 ∧
  st = ⟨176, [(127, .val (.int .i64 j)), (126, .val (.int .i64 2)), (125, .sl 72 1 0 2), (97, .val (.int .i64 i)), (96, .val (.int .i64 2)), (95, .sl 64 1 0 2), (22, .val (.string m)), (11, .val (.bool true)), (4, .val (.int .i64 at'))], [(64, strO X), (72, strO Y)], 80⟩
theorem back_call {kind at' a b c : Int} {raw : List Int} {any : ByteArray} (hk : isI64 kind) (hl : raw.length ≤ maxLen) (hr : ∀ n ∈ raw, isI64 n) (ha : isI64 a) (hb : isI64 b) (hc : isI64 c) (hs : any.size ≤ maxLen) (ho : isI64 at') :
    CallOk Try.prog 3 [.val (.int .i64 kind), .rd 1 (rowsJ raw), arr3 a b c, .val (.string any), .val (.int .i64 at')] [] (.val (.bool true)) [] := by
  refine .of_exec Try.func3 rfl (enters_3) rfl rfl (Nat.le_of_ble_eq_true rfl) (fun n _ => rfl) ?_
  have r1 := req_right kind raw
  have r2 := rsp_may kind a b c raw
  have l2 := rsp_len (pickI kind 5) raw
  have q1 := request_call hk hl hr
  have q2 := response_call hk ha hb hc hl hr
  generalize pickI kind 5 = k' at *
  generalize rspS k' a = st at *
  generalize rspC k' raw = cs' at *
  generalize rspM k' b = m at *
  generalize rspR k' c = r at *
  generalize reqK kind = k at *
  generalize reqL kind raw = ls at *
  generalize reqC kind raw = cs at *
  obtain ⟨f1, f2, f3, f4, f5, f6, f7, _⟩ := right_facts r1
  obtain ⟨g1, g2, _, _, _, _, g3, g4, g5, g6, g7, g8, g9, g10⟩ := may_facts r2
  have hz := encQ_size r1
  have hz' := ansA_size r2
  have hz2 := textsB_le (n := 40) (l := cs') fun x hx => by rcases g6 x hx with e | e <;> omega
  have c1 := Encode_call (k := k) (ls := ls) (cs := cs) ⟨by omega, by omega⟩ (by omega) (by omega)
  have c2 := Answer_call (k := k') (st := st) (cs := cs') (m := m) (r := r) ⟨by omega, by omega⟩ ⟨by omega, by omega⟩ ⟨by omega, by omega⟩ ⟨by omega, by omega⟩ (by omega)
  have c3 := Decode_call (encQ k ls cs).1
  have c4 := Read_call (ansA k' st cs' m r).1
  rw [dec_enc r1] at c3
  rw [read_ans r2] at c4
  have e1 : (encQ k ls cs).2 = 0 := by rw [encQ_ok r1]
  have e2 : (ansA k' st cs' m r).2 = 0 := by rw [ansA_ok r2]
  have s1 := same_call (k := k) (k' := k) (ls := ls) (ls' := ls) (cs := cs) (cs' := cs) (by omega) (by omega) (by omega) (by omega)
  have s2 := alike_call (k := k') (k' := k') (st := st) (st' := st) (m := m) (m' := m) (r := r) (r' := r) (cs := cs') (cs' := cs') (by omega) (by omega)
  rw [e1] at c1
  rw [e2] at c2
  generalize (encQ k ls cs).1 = s at *
  generalize (ansA k' st cs' m r).1 = t at *
  simp only [and_self, decide_true] at s1 s2
  simp
  refine .plain awake11_call (by simp) (by simp) ?_
  simp
  refine .plain q1 (by simp) (by simp) ?_
  simp
  refine .plain q2 (by simp) (by simp) ?_
  simp
  refine .plain c1 (by simp) (by simp) ?_
  simp
  refine .plain c2 (by simp) (by simp) ?_
  simp
  refine .plain c3 (by simp) (by simp) ?_
  simp
  refine .plain c4 (by simp) (by simp) ?_
  simp
  refine .plain s1 (by simp) (by simp) ?_
  simp
  refine .plain s2 (by simp) (by simp) ?_
  have m2 : 2 ≤ maxLen := by decide
  have b1 : (0 : Int) ≤ (if 500 < (any.size : Int) then 500 else (any.size : Int)) ∧ (if 500 < (any.size : Int) then 500 else (any.size : Int)) ≤ (any.size : Int) := by split <;> omega
  simp [m2, b1]
  obtain ⟨any', hany⟩ : ∃ z, any.extract 0 (if 500 < (any.size : Int) then 500 else (any.size : Int)).toNat = z := ⟨_, rfl⟩
  have hm : any'.size ≤ 500 := by rw [← hany, ByteArray.size_extract]; split <;> omega
  rw [hany]
  obtain ⟨X, hX⟩ : ∃ X : List ByteArray, X = [s, t] := ⟨_, rfl⟩
  have hXl : X.length = 2 := by rw [hX]; rfl
  have hXs : ∀ x ∈ X, 0 < x.size ∧ x.size ≤ 20000 := by
    intro x hx
    rw [hX] at hx
    simp only [List.mem_cons, List.not_mem_nil, or_false] at hx
    rcases hx with rfl | rfl <;> omega
  have hXr : strs X = [[.val (.string s)], [.val (.string t)]] := by rw [hX]; rfl
  refine WPg.loopW (bk_out X any' at') ⟨2, _, ?_, ⟨0, by simp, by simp, rfl⟩⟩ ?_
  · exact Wk.rn [(696, 64)] rfl (by simp) (by simp) (by simp [hXr])
  rintro n st' ⟨i, h1, h2, rfl⟩
  by_cases hi : i < 2
  · have hi' : (i : Int) < 2 := by omega
    have hiX : i < X.length := by omega
    obtain ⟨x, hx⟩ : ∃ x, X[i] = x := ⟨_, rfl⟩
    obtain ⟨x1, x2⟩ := hXs x (by rw [← hx]; exact List.getElem_mem _)
    have hpx := pickI_range (c := at') (n := (x.size : Int)) (by omega)
    have hw : IntKind.i64.wrap ((i : Int) + 1) = ((i + 1 : Nat) : Int) := by rw [w64 (by omega) (by omega)]; omega
    have hpk := pick11_call (c := at') (n := (x.size : Int)) ho (by omega)
    simp [hi', hi, hXl, hx]
    refine .plain hpk (by simp) (by simp) ?_
    generalize pickI at' x.size = j at *
    obtain ⟨l, hl'⟩ : ∃ l : Int, (if 3 < (any'.size : Int) then 3 else (any'.size : Int)) = l := ⟨_, rfl⟩
    have u2 : 0 ≤ l ∧ l ≤ (any'.size : Int) := by rw [← hl']; split <;> omega
    have w1 : IntKind.i64.wrap (j + l) = j + l := w64 (by omega) (by omega)
    obtain ⟨e, he'⟩ : ∃ e : Int, (if (x.size : Int) < j + l then (x.size : Int) else j + l) = e := ⟨_, rfl⟩
    have u3 : 0 ≤ e ∧ e ≤ (x.size : Int) := by rw [← he']; split <;> omega
    have u1 : j ≤ (x.size : Int) := by omega
    have v1 : min j.toNat x.size + min l.toNat any'.size ≤ 9223372036854775807 := by omega
    have v2 : min j.toNat x.size + min l.toNat any'.size + (x.size - e.toNat) ≤ 9223372036854775807 := by omega
    simp [hpx, hl', u2, w1, he', u1, u3, v1, v2, m2]
    have v3 : j.toNat + l.toNat + (x.size - e.toNat) ≤ 9223372036854775807 := by omega
    have v4 : j.toNat + l.toNat ≤ 9223372036854775807 := by omega
    refine ⟨v4, fun _ => ⟨v3, fun _ => ⟨rfl, ?_⟩⟩⟩
    generalize x.extract 0 j.toNat ++ any'.extract 0 l.toNat ++ x.extract e.toNat x.size = y2 at *
    obtain ⟨Y, hY⟩ : ∃ Y : List ByteArray, Y = [any', y2] := ⟨_, rfl⟩
    have hYl : Y.length = 2 := by rw [hY]; rfl
    have hYr : strs Y = [[.val (.string any')], [.val (.string y2)]] := by rw [hY]; rfl
    refine WPg.loopW (bk_in X Y any' at' i) ⟨2, _, ?_, ⟨0, by simp, by simp, rfl⟩⟩ ?_
    · exact Wk.rn [(64, 64), (312, 72)] rfl (by simp) (by simp) (by simp [hYr])
    rintro n2 st2 ⟨p, p1, p2, rfl⟩
    by_cases hp : p < 2
    · have hp' : (p : Int) < 2 := by omega
      have hpY : p < Y.length := by omega
      obtain ⟨y, hy⟩ : ∃ y, Y[p] = y := ⟨_, rfl⟩
      have hwp : IntKind.i64.wrap ((p : Int) + 1) = ((p + 1 : Nat) : Int) := by rw [w64 (by omega) (by omega)]; omega
      have d1 := Decode_call y
      have d2 := Read_call y
      obtain ⟨b1, b2, b3⟩ := decQ_bds y
      obtain ⟨b4, b5, b6, b7, b8⟩ := readA_bds y
      have d3 := Encode_call (k := (decQ y).1) (ls := (decQ y).2.1) (cs := (decQ y).2.2.1) b1 (by omega) (by omega)
      have d4 := Answer_call (k := (readA y).k) (st := (readA y).st) (cs := (readA y).cs) (m := (readA y).m) (r := (readA y).r) b4 b5 b6 b7 (by omega)
      have t1 := fun h => (enc_dec (s := y) h).2
      have t2 := fun h => (ans_read (s := y) h).2
      generalize encQ (decQ y).1 (decQ y).2.1 (decQ y).2.2.1 = E1 at *
      generalize ansA (readA y).k (readA y).st (readA y).cs (readA y).m (readA y).r = E2 at *
      generalize readA y = A at *
      generalize decQ y = D at *
      obtain ⟨dk, dl, dc, de⟩ := D
      simp only at d1 d3 t1 b1 b2 b3
      simp [hp', hp, hYl, hy]
      refine .plain d1 (by simp) (by simp) ?_
      simp
      refine .plain d3 (by simp) (by simp) ?_
      by_cases c1 : de = 0
      · obtain rfl := t1 c1
        subst c1
        simp
        refine .plain d2 (by simp) (by simp) ?_
        simp
        refine .plain d4 (by simp) (by simp) ?_
        by_cases c2 : A.e = 0
        · obtain rfl := t2 c2
          simp [c2]
          refine ⟨1 - p, by omega, _, ?_, ⟨p + 1, by omega, by omega, rfl⟩⟩
          rw [hwp]
          exact Wk.rn [(64, 64), (72, 72)] rfl (by simp) (by simp) (by simp)
        · simp [c2]
          refine ⟨1 - p, by omega, _, ?_, ⟨p + 1, by omega, by omega, rfl⟩⟩
          rw [hwp]
          exact Wk.rn [(64, 64), (72, 72)] rfl (by simp) (by simp) (by simp)
      · simp [c1]
        refine .plain d2 (by simp) (by simp) ?_
        simp
        refine .plain d4 (by simp) (by simp) ?_
        by_cases c2 : A.e = 0
        · obtain rfl := t2 c2
          simp [c2]
          refine ⟨1 - p, by omega, _, ?_, ⟨p + 1, by omega, by omega, rfl⟩⟩
          rw [hwp]
          exact Wk.rn [(64, 64), (72, 72)] rfl (by simp) (by simp) (by simp)
        · simp [c2]
          refine ⟨1 - p, by omega, _, ?_, ⟨p + 1, by omega, by omega, rfl⟩⟩
          rw [hwp]
          exact Wk.rn [(64, 64), (72, 72)] rfl (by simp) (by simp) (by simp)
    · have hp' : ¬ (p : Int) < 2 := by omega
      simp [hp']
      refine ⟨1 - i, by omega, _, ?_, ⟨i + 1, by omega, by omega, rfl⟩⟩
      rw [hw]
      exact Wk.rn [(64, 64)] rfl (by simp) (by simp) (by simp)
  · have hi' : ¬ (i : Int) < 2 := by omega
    simp [hi']
    exact .plain (by simp) (by simp)
end Go.Proofs.Ytidaedchmjlbfaa.Sy
