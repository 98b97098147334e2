/- Layer 11: the law's responses. -/
import Derived.Test.YtidaedchmjlbfaaGreatC11u
import Derived.Test.YtidaedchmjlbfaaGreatC11m
namespace Go.Proofs.YtidaedchmjlbfaaGreat.Sy
open Go Go.RowKit
set_option linter.unusedVariables false
set_option linter.unusedSimpArgs false
set_option maxRecDepth 10000
set_option maxHeartbeats 4000000
def cellR (n : Int) : ByteArray := if 0 < pickI n 3 then cellJ n else ⟨#[]⟩
def rspS (k n : Int) : Int := if k = 1 then pickI n 3 else 0
def rspC (k : Int) (raw : List Int) : List ByteArray := if k = 2 then (raw.map cellR).take 12 else []
def rspM (k n : Int) : Int := if k = 3 ∨ k = 4 then pickI n 2147483648 else 0
def rspR (k n : Int) : Int := if k = 4 then pickI n 2147483648 else 0
abbrev arr3 (a b c : Int) : PV := .agg [.val (.int .i64 a), .val (.int .i64 b), .val (.int .i64 c)]
abbrev rspO (k st : Int) (q : PV) (m r : Int) : Ob := ⟨28, 5, [[.val (.int .i64 k), .val (.int .i64 st), q, .val (.int .i64 m), .val (.int .i64 r)]], .cells⟩
abbrev nilP : PV := .val (.slice none 0 0)
def rsp_inv (a b c : Int) (raw : List Int) (Cs : List ByteArray) (m : Nat) (st : St) : Prop := ∃ i : Nat, m = raw.length - i ∧ i ≤ raw.length ∧ i ≤ 12 ∧
  ((i = 0 ∧ st = ⟨67, [(8, .val (.int .i64 i)), (7, .ref 104 5 0 0), (6, .ref 72 5 0 0), (2, .rd 1 (rowsJ raw))], [(104, rspO 2 0 nilP 0 0), (72, rspO 0 0 nilP 0 0)], 112⟩) ∨
   (0 < i ∧ st = ⟨67, [(8, .val (.int .i64 i)), (7, .ref 104 5 0 0), (6, .ref 72 5 0 0), (2, .rd 1 (rowsJ raw))], [(104, rspO 2 0 (.sl 112 1 0 i) 0 0), (112, strO (Cs.take i)), (72, rspO 0 0 nilP 0 0)], 120⟩))
theorem response_call {kind a b c : Int} {raw : List Int} (hk : isI64 kind) (ha : isI64 a) (hb : isI64 b) (hc : isI64 c) (hl : raw.length ≤ maxLen) (hr : ∀ n ∈ raw, isI64 n) :
    CallOk Tryz.prog 8 [.val (.int .i64 kind), arr3 a b c, .rd 1 (rowsJ raw)] [] (resP (pickI kind 5) (rspS (pickI kind 5) a) (rspC (pickI kind 5) raw) (rspM (pickI kind 5) b) (rspR (pickI kind 5) c)) [] := by
  refine .of_exec Tryz.func8 rfl (enters_8) rfl rfl (Nat.le_of_ble_eq_true rfl) (fun n _ => rfl) ?_
  have hp := pickI_range (c := kind) (n := 5) (by omega)
  simp
  refine .plain (pick11_call hk (by omega)) (by simp) (by simp) ?_
  generalize pickI kind 5 = k at *
  by_cases k1 : k = 1
  · subst k1
    simp
    refine .plain (pick11_call ha (by omega)) (by simp) (by simp) ?_
    simp
    exact .wk _ (Wk.nilRdB 1 [72]) (by simp) (by simp [rspS, rspC, rspM, rspR, strs_nil])
  · by_cases k2 : k = 2
    · subst k2
      have hC : rspC 2 raw = (raw.map cellR).take 12 := rfl
      have hCl : (raw.map cellR).length = raw.length := List.length_map _
      have hCg : ∀ (i : Nat) (h : i < raw.length) (h' : i < (raw.map cellR).length), (raw.map cellR)[i] = cellR raw[i] := fun i h h' => List.getElem_map _
      generalize raw.map cellR = Cs at *
      have m1 : 1 ≤ maxLen := by decide
      simp
      refine WPg.loopW (rsp_inv a b c raw Cs) ⟨raw.length, _, ?_, ⟨0, by simp, by simp, by simp, .inl ⟨rfl, rfl⟩⟩⟩ ?_
      · exact Wk.rn [(104, 104), (72, 72)] rfl (by simp) (by simp) (by simp)
      rintro m st ⟨i, h1, h2, h3, h4⟩
      by_cases hi : i < raw.length ∧ i < 12
      · have hi1 : (i : Int) < raw.length := by omega
        have hi2 : (i : Int) < 12 := by omega
        have hw : IntKind.i64.wrap ((i : Int) + 1) = ((i + 1 : Nat) : Int) := by rw [w64 (by omega) (by omega)]; omega
        obtain ⟨x, hx⟩ : ∃ x, raw[i]'hi.1 = x := ⟨_, rfl⟩
        have hx64 : isI64 x := hr x (by rw [← hx]; exact List.getElem_mem _)
        have htk : Cs.take (i + 1) = Cs.take i ++ [cellR x] := by rw [List.take_add_one, List.getElem?_eq_getElem (by omega), hCg i hi.1 (by omega), hx]; rfl
        have ht2 : (Cs.take i).take i = Cs.take i := by rw [List.take_take, Nat.min_self]
        have hmin : min i Cs.length = i := by omega
        have h16 : i ≤ 140737488355327 ∧ (i + 1) * 16 ≤ 140737488355328 := by omega
        have hcx : cellR x = if 0 < pickI x 3 then cellJ x else ⟨#[]⟩ := rfl
        generalize cellR x = y at *
        rcases h4 with ⟨h5, rfl⟩ | ⟨h5, rfl⟩
        · have hw2 : IntKind.i64.wrap (((0 : Nat) : Int) + 1) = 1 := rfl
          have hs1 : i = 0 → strs (Cs.take 1) = [[.val (.string y)]] := fun e => by subst e; rw [htk]; rfl
          by_cases hq : 0 < pickI x 3
          · rw [if_pos hq] at hcx
            simp [hi.1, hi.2, hi1, hi2, hx]
            refine .plain (pick11_call hx64 (by omega)) (by simp) (by simp) ?_
            simp [hq, hi.1, hi1, hx]
            refine .plain (cell11_call hx64) (by simp) (by simp) ?_
            simp [m1, ← hcx]
            refine ⟨raw.length - 1, by omega, _, ?_, ⟨1, rfl, by omega, by omega, .inr ⟨by omega, rfl⟩⟩⟩
            subst h5
            rw [hw2]
            exact Wk.rn [(104, 104), (312, 112), (72, 72)] rfl (by simp) (by simp) (by simp; exact hs1 rfl)
          · rw [if_neg hq] at hcx
            simp [hi.1, hi.2, hi1, hi2, hx]
            refine .plain (pick11_call hx64 (by omega)) (by simp) (by simp) ?_
            simp [hq, m1, ← hcx]
            refine ⟨raw.length - 1, by omega, _, ?_, ⟨1, rfl, by omega, by omega, .inr ⟨by omega, rfl⟩⟩⟩
            subst h5
            rw [hw2]
            exact Wk.rn [(104, 104), (264, 112), (72, 72)] rfl (by simp) (by simp) (by simp; exact hs1 rfl)
        · by_cases hq : 0 < pickI x 3
          · rw [if_pos hq] at hcx
            simp [hi.1, hi.2, hi1, hi2, hx]
            refine .plain (pick11_call hx64 (by omega)) (by simp) (by simp) ?_
            simp [hq, hi.1, hi1, hx]
            refine .plain (cell11_call hx64) (by simp) (by simp) ?_
            simp [m1, ← hcx, hmin, h16]
            refine ⟨raw.length - (i + 1), by omega, _, ?_, ⟨i + 1, rfl, by omega, by omega, .inr ⟨by omega, rfl⟩⟩⟩
            rw [hw]
            exact Wk.rn [(104, 104), (320, 112), (72, 72)] rfl (by simp) (by simp) (by simp; rw [htk, ht2])
          · rw [if_neg hq] at hcx
            simp [hi.1, hi.2, hi1, hi2, hx]
            refine .plain (pick11_call hx64 (by omega)) (by simp) (by simp) ?_
            simp [hq, m1, ← hcx, hmin, h16]
            refine ⟨raw.length - (i + 1), by omega, _, ?_, ⟨i + 1, rfl, by omega, by omega, .inr ⟨by omega, rfl⟩⟩⟩
            rw [hw]
            exact Wk.rn [(104, 104), (272, 112), (72, 72)] rfl (by simp) (by simp) (by simp; rw [htk, ht2])
      · have hend : Cs.take 12 = Cs.take i := by
          by_cases c : i = 12
          · rw [c]
          · rw [List.take_of_length_le (by omega), List.take_of_length_le (by omega)]
        rcases h4 with ⟨h5, rfl⟩ | ⟨h5, rfl⟩
        · have hi1 : ¬ i < raw.length := by omega
          have hn : Cs = [] := List.eq_nil_of_length_eq_zero (by omega)
          simp [hi1]
          exact .wk _ (Wk.nilRdB 1 [72]) (by simp) (by simp [hC, hn, rspS, rspM, rspR, strs_nil])
        · have ht3 : (Cs.take i).take i = Cs.take i := by rw [List.take_take, Nat.min_self]
          have hmin : min i Cs.length = i := by omega
          by_cases hi1 : i < raw.length
          · have hi2 : ¬ (i : Int) < 12 := by omega
            simp [hi1, hi2]
            exact .frz [112] [6] (by simp [hmin]) (by simp [hmin]) (by simp [hmin]) (by simp [hmin]) (by simp [hC, hend, hmin, ht3, rspS, rspM, rspR])
          · simp [hi1]
            exact .frz [112] [6] (by simp [hmin]) (by simp [hmin]) (by simp [hmin]) (by simp [hmin]) (by simp [hC, hend, hmin, ht3, rspS, rspM, rspR])
    · by_cases k3 : k = 3
      · subst k3
        simp
        refine .plain (pick11_call hb (by omega)) (by simp) (by simp) ?_
        simp
        exact .wk _ (Wk.nilRdB 1 [72]) (by simp) (by simp [rspS, rspC, rspM, rspR, strs_nil])
      · by_cases k4 : k = 4
        · subst k4
          simp
          refine .plain (pick11_call hb (by omega)) (by simp) (by simp) ?_
          simp
          refine .plain (pick11_call hc (by omega)) (by simp) (by simp) ?_
          simp
          exact .wk _ (Wk.nilRdB 1 [72]) (by simp) (by simp [rspS, rspC, rspM, rspR, strs_nil])
        · simp [k1, k2, k3, k4]
          exact .wk _ (Wk.nilRdB 1 [72]) (by simp) (by simp [rspS, rspC, rspM, rspR, k1, k2, k3, k4, strs_nil])
end Go.Proofs.YtidaedchmjlbfaaGreat.Sy
