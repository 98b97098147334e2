/- Layer 11: the law's requests. -/
import Derived.Test.YtbigcojlpcchiaaGreatC11q
namespace Go.Proofs.YtbigcojlpcchiaaGreat.Sy
open Go Go.RowKit
set_option linter.unusedVariables false
set_option linter.unusedSimpArgs false
set_option maxRecDepth 10000
set_option maxHeartbeats 4000000
theorem labF_len : ∀ (l : List Int) (out : List ByteArray), (labF l out).length ≤ out.length + l.length
  | [], out => Nat.le_refl _
  | n :: r, out => by
    rw [labF]
    split
    · have := labF_len r out; simp only [List.length_cons]; omega
    · have := labF_len r (out ++ [labJ n]); simp only [List.length_append, List.length_cons, List.length_nil] at this ⊢; omega
theorem labsJ_len (raw : List Int) : (labsJ raw).length ≤ 12 ∧ (labsJ raw).length ≤ raw.length := by
  have := labF_len (raw.take 12) []
  rw [List.length_take, List.length_nil] at this
  unfold labsJ
  omega
def reqK (kind : Int) : Int := 1 + pickI kind 4
def reqL (kind : Int) (raw : List Int) : List ByteArray := if reqK kind = 4 then [] else labsJ raw
def reqC (kind : Int) (raw : List Int) : List ByteArray := if reqK kind = 1 then (raw.map cellJ).take (labsJ raw).length else []
abbrev reqO (k : Int) (p q : PV) : Ob := ⟨26, 3, [[.val (.int .i64 k), p, q]], .cells⟩
def req_inv (raw : List Int) (L Cs : List ByteArray) (m : Nat) (st : St) : Prop := ∃ i : Nat, m = L.length - i ∧ i ≤ L.length ∧
  ((i = 0 ∧ st = ⟨39, [(6, .val (.int .i64 i)), (5, .ref 104 3 0 0), (4, .ref 64 3 0 0), (1, .rd 1 (rowsJ raw))], [(104, reqO 1 (.rd 1 (strs L)) (.val (.slice none 0 0))), (64, reqO 0 (.val (.slice none 0 0)) (.val (.slice none 0 0)))], 112⟩) ∨
   (0 < i ∧ st = ⟨39, [(6, .val (.int .i64 i)), (5, .ref 104 3 0 0), (4, .ref 64 3 0 0), (1, .rd 1 (rowsJ raw))], [(104, reqO 1 (.rd 1 (strs L)) (.sl 112 1 0 i)), (112, strO (Cs.take i)), (64, reqO 0 (.val (.slice none 0 0)) (.val (.slice none 0 0)))], 120⟩))
theorem request_call {kind : Int} {raw : List Int} (hk : isI64 kind) (hl : raw.length ≤ maxLen) (hr : ∀ n ∈ raw, isI64 n) : CallOk Tryz.prog 26 [.val (.int .i64 kind), .rd 1 (rowsJ raw)] [] (reqP (reqK kind) (reqL kind raw) (reqC kind raw)) [] := by
  refine .of_exec Tryz.func26 rfl (enters_26) rfl rfl (Nat.le_of_ble_eq_true rfl) (fun n _ => rfl) ?_
  have hp := pickI_range (c := kind) (n := 4) (by omega)
  have hw : IntKind.i64.wrap (1 + pickI kind 4) = reqK kind := w64 (by omega) (by omega)
  have hkk : 1 ≤ reqK kind ∧ reqK kind ≤ 4 := by unfold reqK; omega
  simp
  refine .plain (pick11_call hk (by omega)) (by simp) (by simp) ?_
  have hL : reqL kind raw = if reqK kind = 4 then [] else labsJ raw := rfl
  have hC : reqC kind raw = if reqK kind = 1 then (raw.map cellJ).take (labsJ raw).length else [] := rfl
  generalize reqK kind = k at *
  have hlab := labels_call hl hr
  have hlen := labsJ_len raw
  generalize labsJ raw = L at *
  have hCl : (raw.map cellJ).length = raw.length := List.length_map _
  have hCg : ∀ (i : Nat) (h : i < raw.length) (h' : i < (raw.map cellJ).length), (raw.map cellJ)[i] = cellJ raw[i] := fun i h h' => List.getElem_map _
  generalize raw.map cellJ = Cs at *
  by_cases k4 : k = 4
  · subst k4
    rw [if_pos rfl] at hL
    rw [if_neg (by omega)] at hC
    simp [hw]
    exact .wk _ (Wk.nilRdB 1 [64]) (by simp) (by simp [hL, hC, strs_nil])
  · rw [if_neg k4] at hL
    by_cases k1 : k = 1
    · subst k1
      rw [if_pos rfl] at hC
      simp [hw]
      refine .plain hlab (by simp) (by simp) ?_
      simp
      refine WPg.loopW (req_inv raw L Cs) ⟨L.length, _, ?_, ⟨0, by simp, by simp, .inl ⟨rfl, rfl⟩⟩⟩ ?_
      · exact Wk.rn [(104, 104), (64, 64)] rfl (by simp) (by simp) (by simp)
      rintro m st ⟨i, h1, h2, h3⟩
      have m1 : 1 ≤ maxLen := by decide
      by_cases hi : i < L.length
      · have hi' : (i : Int) < L.length := by omega
        have hir : i < raw.length := by omega
        have hw1 : IntKind.i64.wrap ((i : Int) + 1) = ((i + 1 : Nat) : Int) := by rw [w64 (by omega) (by omega)]; omega
        obtain ⟨x, hx⟩ : ∃ x, raw[i] = x := ⟨_, rfl⟩
        have hx64 : isI64 x := hr x (by rw [← hx]; exact List.getElem_mem _)
        have htk : Cs.take (i + 1) = Cs.take i ++ [cellJ x] := by rw [List.take_add_one, List.getElem?_eq_getElem (by omega), hCg i hir (by omega), hx]; rfl
        have ht2 : (Cs.take i).take i = Cs.take i := by rw [List.take_take, Nat.min_self]
        have hmin : min i Cs.length = i := by omega
        have h16 : i ≤ 140737488355327 ∧ (i + 1) * 16 ≤ 140737488355328 := by omega
        rcases h3 with ⟨h4, rfl⟩ | ⟨h4, rfl⟩
        · simp [hi, hi', hir, hx]
          refine .plain (cell11_call hx64) (by simp) (by simp) ?_
          simp [m1]
          refine ⟨rfl, L.length - 1, by omega, _, ?_, ⟨1, rfl, by omega, .inr ⟨by omega, rfl⟩⟩⟩
          subst h4
          have hs1 : strs (Cs.take 1) = [[.val (.string (cellJ x))]] := by rw [htk]; rfl
          have hw2 : IntKind.i64.wrap (((0 : Nat) : Int) + 1) = 1 := rfl
          rw [hw2]
          exact Wk.rn [(104, 104), (216, 112), (64, 64)] rfl (by simp) (by simp) (by simp; exact hs1)
        · simp [hi, hi', hir, hx]
          refine .plain (cell11_call hx64) (by simp) (by simp) ?_
          simp [m1, hmin, h16]
          refine ⟨rfl, L.length - (i + 1), by omega, _, ?_, ⟨i + 1, rfl, by omega, .inr ⟨by omega, rfl⟩⟩⟩
          rw [hw1]
          exact Wk.rn [(104, 104), (224, 112), (64, 64)] rfl (by simp) (by simp) (by simp; rw [htk, ht2])
      · obtain rfl : i = L.length := by omega
        rcases h3 with ⟨h4, rfl⟩ | ⟨h4, rfl⟩
        · have hn : L = [] := List.eq_nil_of_length_eq_zero h4
          simp
          exact .wk _ (Wk.nilRdB 1 [64]) (by simp) (by simp [hL, hC, hn, strs_nil])
        · have ht3 : (Cs.take L.length).take L.length = Cs.take L.length := by rw [List.take_take, Nat.min_self]
          have hmin : min L.length Cs.length = L.length := by omega
          simp
          exact .frz [112] [4] (by simp [hmin]) (by simp [hmin]) (by simp [hmin]) (by simp [hmin]) (by simp [hL, hC, hmin, ht3])
    · rw [if_neg k1] at hC
      simp [hw, k4, k1]
      refine .plain hlab (by simp) (by simp) ?_
      simp [k1]
      exact .wk _ (Wk.nilRdB 1 [64]) (by simp) (by simp [hL, hC, strs_nil])
end Go.Proofs.YtbigcojlpcchiaaGreat.Sy
