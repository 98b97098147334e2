/- Layer 13: the law's requests and servers. -/
import Derived.Test.YtbigcojlpcchiaaGreatC13e
import Derived.Test.YtbigcojlpcchiaaGreatC11s
namespace Go.Proofs.YtbigcojlpcchiaaGreat.Sy
open Go Go.RowKit
set_option linter.unusedVariables false
set_option linter.unusedSimpArgs false
set_option maxRecDepth 10000
set_option maxHeartbeats 4000000
open Bk (Sto rowsB stoP putS getS delS RightI inB)
theorem pick13_call {c n : Int} (hc : isI64 c) (hn : 0 < n ∧ n ≤ 9223372036854775807) :
    CallOk Tryz.prog 14 [.val (.int .i64 c), .val (.int .i64 n)] [] (.val (.int .i64 (pickI c n))) [] := by
  refine .of_exec Tryz.func14 rfl (enters_14) rfl rfl (Nat.le_of_ble_eq_true rfl) (fun n _ => rfl) ?_
  have h0 : n ≠ 0 := by omega
  unfold isI64 at hc
  by_cases h : c < 0
  · have w1 : IntKind.i64.wrap (c + 1) = c + 1 := w64 (by omega) (by omega)
    have w2 : IntKind.i64.wrap (-(c + 1)) = -(c + 1) := w64 (by omega) (by omega)
    have hm : (-(c + 1)).tmod n = pickI c n := by rw [Int.tmod_eq_emod_of_nonneg (by omega)]; simp [pickI, h]
    simp [h, h0, w1, w2, hm]
    exact .plain (by simp) (by simp)
  · have hm : c.tmod n = pickI c n := by rw [Int.tmod_eq_emod_of_nonneg (by omega)]; simp [pickI, h]
    simp [h, h0, hm]
    exact .plain (by simp) (by simp)
def kindI (x : Int) : Int := if pickI x 6 < 3 then 0 else pickI x 6 - 2
def r13K : List Int → Int
  | [] => 4
  | x :: _ => reqK (kindI x)
def r13L : List Int → List ByteArray
  | [] => []
  | x :: t => reqL (kindI x) t
def r13C : List Int → List ByteArray
  | [] => []
  | x :: t => reqC (kindI x) t
theorem r13_right : ∀ r : List Int, rightQ (r13K r) (r13L r) (r13C r) = true
  | [] => by decide +kernel
  | x :: t => req_right (kindI x) t
theorem req13_call : ∀ {r : List Int}, r.length ≤ maxLen → (∀ n ∈ r, isI64 n) → CallOk Tryz.prog 17 [.rd 1 (rowsJ r)] [] (reqP (r13K r) (r13L r) (r13C r)) []
  | [], _, _ => by
    refine .of_exec Tryz.func17 rfl (enters_17) rfl rfl (Nat.le_of_ble_eq_true rfl) (fun n _ => rfl) ?_
    simp
    exact .wk _ (Wk.nilRdB 1 [64]) (by simp) (by simp [r13K, r13L, r13C, strs_nil])
  | x :: t, hl, hr => by
    refine .of_exec Tryz.func17 rfl (enters_17) rfl rfl (Nat.le_of_ble_eq_true rfl) (fun n _ => rfl) ?_
    have hx := hr x List.mem_cons_self
    have hp := pickI_range (c := x) (n := 6) (by omega)
    have hk : kindI x = if pickI x 6 < 3 then 0 else pickI x 6 - 2 := rfl
    have hc : ∀ k : Int, isI64 k → CallOk Tryz.prog 26 [.val (.int .i64 k), .rd 1 (rowsJ t)] [] (reqP (reqK k) (reqL k t) (reqC k t)) [] := fun k hk => request_call hk (by rw [List.length_cons] at hl; omega) fun n hn => hr n (List.mem_cons_of_mem _ hn)
    have hpk := pick13_call (c := x) (n := 6) hx (by omega)
    have m6 : 6 ≤ maxLen := by decide
    have hlen : 0 ≤ (t.length : Int) ∧ ¬ ((t.length : Int) + 1 = 0) ∧ 0 < (t.length : Int) + 1 := by omega
    rw [show r13K (x :: t) = reqK (kindI x) from rfl, show r13L (x :: t) = reqL (kindI x) t from rfl, show r13C (x :: t) = reqC (kindI x) t from rfl]
    generalize pickI x 6 = j at *
    have hj : j = 0 ∨ j = 1 ∨ j = 2 ∨ j = 3 ∨ j = 4 ∨ j = 5 := by omega
    have hb : 1 ≤ (t.length : Int) + 1 := by omega
    have htail : (List.take (t.length + 1) (rowsJ (x :: t))).tail = rowsJ t := by
      show (List.take (t.length + 1) ([PV.val (.int .i64 x)] :: rowsJ t)).tail = rowsJ t
      rw [List.take_succ_cons, List.tail_cons]
      exact List.take_of_length_le (by simp)
    simp [hlen, m6]
    refine .plain hpk (by simp) (by simp) ?_
    rcases hj with rfl | rfl | rfl | rfl | rfl | rfl
    · rw [hk, if_pos (by omega)]
      simp [htail]
      refine ⟨hb, fun _ => .plain (hc 0 ⟨by omega, by omega⟩) (by simp) (by simp) ?_⟩
      simp
      exact .plain (by simp) (by simp)
    · rw [hk, if_pos (by omega)]
      simp [htail]
      refine ⟨hb, fun _ => .plain (hc 0 ⟨by omega, by omega⟩) (by simp) (by simp) ?_⟩
      simp
      exact .plain (by simp) (by simp)
    · rw [hk, if_pos (by omega)]
      simp [htail]
      refine ⟨hb, fun _ => .plain (hc 0 ⟨by omega, by omega⟩) (by simp) (by simp) ?_⟩
      simp
      exact .plain (by simp) (by simp)
    · rw [hk, if_neg (by omega)]
      simp [htail]
      refine ⟨hb, fun _ => .plain (hc 1 ⟨by omega, by omega⟩) (by simp) (by simp) ?_⟩
      simp
      exact .plain (by simp) (by simp)
    · rw [hk, if_neg (by omega)]
      simp [htail]
      refine ⟨hb, fun _ => .plain (hc 2 ⟨by omega, by omega⟩) (by simp) (by simp) ?_⟩
      simp
      exact .plain (by simp) (by simp)
    · rw [hk, if_neg (by omega)]
      simp [htail]
      refine ⟨hb, fun _ => .plain (hc 3 ⟨by omega, by omega⟩) (by simp) (by simp) ?_⟩
      simp
      exact .plain (by simp) (by simp)
def rowsRR (raw : List (List Int)) : List (List PV) := raw.map fun r => [.rd 1 (rowsJ r)]
@[simp] theorem rowsRR_length (l : List (List Int)) : (rowsRR l).length = l.length := by simp [rowsRR]
@[simp] theorem rowsRR_get {l : List (List Int)} {i : Nat} (h : i < (rowsRR l).length) : (rowsRR l)[i] = [.rd 1 (rowsJ (l[i]'(by simpa using h)))] := by simp [rowsRR]
def rawOk (raw : List (List Int)) : Prop := raw.length ≤ maxLen ∧ ∀ r ∈ raw, r.length ≤ maxLen ∧ ∀ n ∈ r, isI64 n
def nextSrv (lim : Int) (s : Sto) (r : List Int) : Sto := (doV s lim (r13K r) (r13L r) (r13C r)).1
def srvS (limit : Int) (raw : List (List Int)) : Sto := (raw.take 12).foldl (nextSrv (pickI limit 40)) (Bk.freshS 8)
theorem new_right {lim : Int} (h : 0 ≤ lim ∧ lim ≤ 2000) : rightV (Bk.freshS 8) lim = true := rightV_iff.2 ⟨Bk.fresh_right (by decide), h.1, h.2, h.1⟩
theorem fold_right {lim : Int} : ∀ (l : List (List Int)) (s : Sto), rightV s lim = true → rightV (l.foldl (nextSrv lim) s) lim = true
  | [], s, h => h
  | r :: l, s, h => fold_right l _ (do_right h)
theorem srv_right (limit : Int) (raw : List (List Int)) : rightV (srvS limit raw) (pickI limit 40) = true := by
  have := pickI_range (c := limit) (n := 40) (by omega)
  exact fold_right _ _ (new_right (by omega))
def srv_inv (limit : Int) (raw : List (List Int)) (m : Nat) (st : St) : Prop := ∃ (i : Nat) (s : Sto), m = raw.length - i ∧ i ≤ raw.length ∧ i ≤ 12 ∧ rightV s (pickI limit 40) = true ∧ srvS limit raw = ((raw.take 12).drop i).foldl (nextSrv (pickI limit 40)) s ∧
  st = ⟨35, [(7, .val (.int .i64 i)), (5, .ref 72 4 0 0), (4, .ref 64 4 0 0), (1, .rd 1 (rowsRR raw))], [(64, srv0), (72, srvO s (pickI limit 40))], 80⟩
theorem server13_call {limit : Int} {raw : List (List Int)} (hl : isI64 limit) (hr : rawOk raw) : CallOk Tryz.prog 13 [.val (.int .i64 limit), .rd 1 (rowsRR raw)] [] (srvP (srvS limit raw) (pickI limit 40)) [] := by
  refine .of_exec Tryz.func13 rfl (enters_13) rfl rfl (Nat.le_of_ble_eq_true rfl) (fun n _ => rfl) ?_
  have hp := pickI_range (c := limit) (n := 40) (by omega)
  have hn := refsnew_call (pickI limit 40)
  have e : newV (pickI limit 40) = (Bk.freshS 8, pickI limit 40, 0) := if_neg (by omega)
  rw [e] at hn
  simp
  refine .plain (pick13_call hl (by omega)) (by simp) (by simp) ?_
  simp
  refine .plain hn (by simp) (by simp) ?_
  simp
  refine WPg.loopW (srv_inv limit raw) ⟨raw.length, _, ?_, ⟨0, Bk.freshS 8, by simp, by simp, by simp, new_right (by omega), rfl, rfl⟩⟩ ?_
  · exact Wk.rn [(64, 64), (120, 72)] rfl (by simp) (by simp) (by simp)
  rintro m st ⟨i, s, h1, h2, h3, h4, h5, rfl⟩
  have hs := rightI_small (rightV_iff.1 h4).1
  by_cases hi : i < raw.length ∧ i < 12
  · have hi1 : (i : Int) < raw.length := by omega
    have hi2 : (i : Int) < 12 := by omega
    have hw : IntKind.i64.wrap ((i : Int) + 1) = ((i + 1 : Nat) : Int) := by rw [w64 (by omega) (by omega)]; omega
    obtain ⟨x, hx⟩ : ∃ x, raw[i]'hi.1 = x := ⟨_, rfl⟩
    have hxo := hr.2 x (by rw [← hx]; exact List.getElem_mem _)
    have hd : (raw.take 12).drop i = x :: (raw.take 12).drop (i + 1) := by
      rw [List.drop_eq_getElem_cons (by rw [List.length_take]; omega), List.getElem_take, hx]
    rw [hd, List.foldl_cons] at h5
    obtain ⟨f1, f2, _⟩ := right_facts (r13_right x)
    have hD := refDo_call (s := s) (lim := pickI limit 40) (K := r13K x) (ls := r13L x) (cs := r13C x) hs (by omega) (by omega)
    have h4' := do_right (k := r13K x) (ls := r13L x) (cs := r13C x) h4
    simp [hi.1, hi.2, hi1, hi2, hx]
    refine callT.plain (req13_call hxo.1 hxo.2) (by simp) (by simp) ?_
    simp
    refine callT.plain hD (by simp) (by simp) ?_
    simp
    refine ⟨rfl, raw.length - (i + 1), by omega, _, ?_, ⟨i + 1, _, rfl, by omega, by omega, h4', h5, rfl⟩⟩
    rw [hw]
    exact Wk.rn [(64, 64), (72, 72)] rfl (by simp) (by simp) (by simp [nextSrv])
  · have hend : srvS limit raw = s := by rw [h5, List.drop_eq_nil_of_le (by rw [List.length_take]; omega)]; rfl
    by_cases hi1 : i < raw.length
    · have hi2 : ¬ (i : Int) < 12 := by omega
      have hi1' : (i : Int) < raw.length := by omega
      simp [hi1, hi1', hi2]
      exact .plain (by simp) (by simp [hend])
    · have hi1' : ¬ (i : Int) < raw.length := by omega
      simp [hi1, hi1']
      exact .plain (by simp) (by simp [hend])
end Go.Proofs.YtbigcojlpcchiaaGreat.Sy
