/- Layer 13: the law ServerBytes. -/
import Derived.Test.YtbigcojlpcchiaaGreatC13l
namespace Go.Proofs.YtbigcojlpcchiaaGreat.Sy
open Go Go.RowKit
set_option linter.unusedVariables false
set_option linter.unusedSimpArgs false
set_option maxRecDepth 10000
set_option maxHeartbeats 16000000
open Bk (Sto rowsB stoP putS getS delS RightI inB)
theorem step_facts {s : Sto} {n : Int} (hv : rightV s n = true) (x : ByteArray) : (readA (stepV s n x).2).e = 0 ∧ rightV (stepV s n x).1 n = true ∧ ((decQ x).2.2.2 ≠ 0 → (readA (stepV s n x).2).k = 0 ∧ (stepV s n x).1 = s) ∧ ((decQ x).2.2.2 = 0 → (readA (stepV s n x).2).k = (decQ x).1) := by
  unfold stepV
  by_cases c : (decQ x).2.2.2 = 0
  · rw [if_pos c]
    have hq := (enc_dec c).1
    have hm := do_may s n (decQ x).1 (decQ x).2.1 (decQ x).2.2.1
    simp only
    rw [read_ans hm]
    exact ⟨rfl, do_right hv, fun h => absurd c h, fun _ => do_kind hq hv⟩
  · rw [if_neg c]
    have hm : mayA 0 0 [] 0 0 = true := rfl
    simp only
    rw [read_ans hm]
    exact ⟨rfl, hv, fun _ => ⟨by simp, by simp⟩, fun h => absurd h c⟩
theorem step_len {s : Sto} {n : Int} (x : ByteArray) (hs : s.bs.length < 1000000) : (stepV s n x).1.bs.length < 1000000 := by
  unfold stepV
  split
  · exact do_len _ _ _ _ _ hs
  · exact hs
def bytes_inv (s : Sto) (n : Int) (X : List ByteArray) (m : Nat) (st : St) : Prop := ∃ i : Nat, m = X.length - i ∧ i ≤ X.length ∧
  st = ⟨123, [(68, .val (.int .i64 i)), (67, .val (.int .i64 X.length)), (66, .rd 1 (strs X)), (12, .ref 64 4 0 0), (11, .val (.bool true))], [(64, srvO s n)], 72⟩
theorem bytes_call {limit at' : Int} {raw : List (List Int)} {next : List Int} {any : ByteArray} (hl : isI64 limit) (hr : rawOk raw) (hn : next.length ≤ maxLen ∧ ∀ n ∈ next, isI64 n) (hany : any.size ≤ maxLen) (ha : isI64 at') :
    CallOk Tryz.prog 6 [.val (.int .i64 limit), .rd 1 (rowsRR raw), .rd 1 (rowsJ next), .val (.string any), .val (.int .i64 at')] [] (.val (.bool true)) [] := by
  refine .of_exec Tryz.func6 rfl (enters_6) rfl rfl (Nat.le_of_ble_eq_true rfl) (fun n _ => rfl) ?_
  have hS := server13_call hl hr
  have hv := srv_right limit raw
  generalize srvS limit raw = s at *
  generalize pickI limit 40 = n at *
  have hq := r13_right next
  have hR := req13_call hn.1 hn.2
  generalize r13K next = k at *
  generalize r13L next = ls at *
  generalize r13C next = cs at *
  obtain ⟨f1, f2, _, _, _, f6, f7, _⟩ := right_facts hq
  have hs := rightI_small (rightV_iff.1 hv).1
  have hE := refEncode_call (k := k) (ls := ls) (cs := cs) ⟨by omega, by omega⟩ (by omega) (by omega)
  have hz := encQ_size hq
  generalize encQ k ls cs = q at *
  have u1 : (0 : Int) ≤ (if 500 < (any.size : Int) then 500 else (any.size : Int)) ∧ (if 500 < (any.size : Int) then 500 else (any.size : Int)) ≤ (any.size : Int) := by split <;> omega
  obtain ⟨any', hany'⟩ : ∃ z, any.extract 0 (if 500 < (any.size : Int) then 500 else (any.size : Int)).toNat = z := ⟨_, rfl⟩
  have hm5 : any'.size ≤ 500 := by rw [← hany', ByteArray.size_extract]; split <;> omega
  have hpx := pickI_range (c := at') (n := (q.1.size : Int)) (by omega)
  have hpk := pick13_call (c := at') (n := (q.1.size : Int)) ha (by omega)
  generalize pickI at' q.1.size = j at *
  obtain ⟨l, hl'⟩ : ∃ l : Int, (if 2 < (any'.size : Int) then 2 else (any'.size : Int)) = l := ⟨_, rfl⟩
  have u2 : 0 ≤ l ∧ l ≤ (any'.size : Int) := by rw [← hl']; split <;> omega
  have w1 : IntKind.i64.wrap (j + l) = j + l := w64 (by omega) (by omega)
  obtain ⟨e, he'⟩ : ∃ e : Int, (if (q.1.size : Int) < j + l then (q.1.size : Int) else j + l) = e := ⟨_, rfl⟩
  have u3 : 0 ≤ e ∧ e ≤ (q.1.size : Int) := by rw [← he']; split <;> omega
  have u4 : j ≤ (q.1.size : Int) := by omega
  have v1 : j.toNat + l.toNat ≤ 9223372036854775807 := by omega
  have v2 : j.toNat + l.toNat + (q.1.size - e.toNat) ≤ 9223372036854775807 := by omega
  have m3 : 3 ≤ maxLen := by decide
  simp
  refine .plain awake13_call (by simp) (by simp) ?_
  simp
  refine .plain hS (by simp) (by simp) ?_
  simp
  refine .plain hR (by simp) (by simp) ?_
  simp
  refine .plain hE (by simp) (by simp) ?_
  simp [u1, hany']
  refine .plain hpk (by simp) (by simp) ?_
  simp [hl', hpx, u2, w1, he', u3, u4, m3]
  refine ⟨v1, fun _ => ⟨v2, fun _ => ⟨rfl, ?_⟩⟩⟩
  generalize q.1.extract 0 j.toNat ++ any'.extract 0 l.toNat ++ q.1.extract e.toNat q.1.size = y2 at *
  obtain ⟨X, hX⟩ : ∃ X : List ByteArray, X = [any', q.1, y2] := ⟨_, rfl⟩
  have hXl : X.length = 3 := by rw [hX]; rfl
  refine WPg.loopW (bytes_inv s n X) ⟨X.length, _, ?_, ⟨0, by simp, by simp, rfl⟩⟩ ?_
  · refine Wk.trans (Wk.frz [456] (st' := ⟨123, [(68, .val (.int .i64 0)), (67, .val (.int .i64 3)), (66, .rd 1 (strs X)), (12, .ref 112 4 0 0), (11, .val (.bool true))], [(112, srvO s n)], _⟩) rfl rfl (by simp) (by simp [hX, rowsV]) (by simp)) ?_
    exact Wk.rn [(112, 64)] rfl (by simp) (by simp [hXl]) (by simp)
  rintro m st ⟨i, h1, h2, rfl⟩
  by_cases hi : i < X.length
  · have hi' : (i : Int) < X.length := by omega
    have hw : IntKind.i64.wrap ((i : Int) + 1) = ((i + 1 : Nat) : Int) := by rw [w64 (by omega) (by omega)]; omega
    obtain ⟨x, hx⟩ : ∃ x, X[i] = x := ⟨_, rfl⟩
    obtain ⟨t1, t2, t3, t4⟩ := step_facts hv x
    have d1 := Step_call (s := s) (lim := n) x hs
    have hl1 := step_len (n := n) x hs
    have d2 := refRead_call (stepV s n x).2
    have d3 := refDecode_call x
    generalize stepV s n x = T at *
    generalize readA T.2 = A at *
    generalize decQ x = D at *
    obtain ⟨dk, dl, dc, de⟩ := D
    obtain ⟨t, y⟩ := T
    simp only at t1 t2 t3 t4 d1 d2 d3 hl1
    rw [t1] at d2
    have d4 := sright_call (lim := n) hl1
    rw [t2] at d4
    simp [hi, hi', hx]
    refine .plain d1 (by simp) (by simp) ?_
    simp
    refine .plain d2 (by simp) (by simp) ?_
    simp
    refine .plain d3 (by simp) (by simp) ?_
    simp
    refine .plain d4 (by simp) (by simp) ?_
    by_cases c : de = 0
    · have e4 := t4 c
      simp [c, e4]
      refine ⟨X.length - (i + 1), by omega, _, ?_, ⟨i + 1, rfl, by omega, rfl⟩⟩
      rw [hw]
      exact Wk.rn [(64, 64)] rfl (by simp) (by simp) (by simp)
    · obtain ⟨e3, rfl⟩ := t3 c
      simp [c, e3]
      refine .plain (ssame_call hl1) (by simp) (by simp) ?_
      simp [c]
      refine ⟨X.length - (i + 1), by omega, _, ?_, ⟨i + 1, rfl, by omega, rfl⟩⟩
      rw [hw]
      exact Wk.rn [(64, 64)] rfl (by simp) (by simp) (by simp)
  · obtain rfl : i = X.length := by omega
    simp
    exact .plain (by simp) (by simp)
end Go.Proofs.YtbigcojlpcchiaaGreat.Sy
