/- Layer 11: the law's labels, requests. -/
import Derived.Test.YtbigcojlpcchiaaGreatC11l
import Derived.Test.YtbigcojlpcchiaaGreatC11e
namespace Go.Proofs.YtbigcojlpcchiaaGreat.Sy
open Go Go.RowKit
set_option linter.unusedVariables false
set_option linter.unusedSimpArgs false
set_option maxRecDepth 10000
set_option maxHeartbeats 4000000
def hasL (out : List ByteArray) (x : ByteArray) : Bool := out.any fun y => decide (y = x)
def labF : List Int → List ByteArray → List ByteArray
  | [], out => out
  | n :: r, out => if hasL out (labJ n) = true then labF r out else labF r (out ++ [labJ n])
def labsJ (raw : List Int) : List ByteArray := labF (raw.take 12) []
abbrev rowsJ (l : List Int) : List (List PV) := rowsV (fun n => Value.int .i64 n) l
def lab_inv (raw : List Int) (m : Nat) (st : St) : Prop := ∃ (i : Nat) (out : List ByteArray), m = raw.length - i ∧ i ≤ raw.length ∧ i ≤ 12 ∧ out.length ≤ i ∧ labsJ raw = labF ((raw.take 12).drop i) out ∧
  ((out = [] ∧ i = 0 ∧ st = ⟨45, [(4, .val (.int .i64 i)), (3, .val (.slice none 0 0)), (2, .val (.slice none 0 0)), (0, .rd 1 (rowsJ raw))], [], 64⟩) ∨
   (out ≠ [] ∧ st = ⟨45, [(4, .val (.int .i64 i)), (3, .sl 64 1 0 out.length), (2, .val (.slice none 0 0)), (0, .rd 1 (rowsJ raw))], [(64, strO out)], 72⟩))
theorem hasL_take {out : List ByteArray} {x : ByteArray} {j : Nat} (h : j < out.length) : hasL (out.take (j + 1)) x = (hasL (out.take j) x || decide (out[j] = x)) := by
  unfold hasL
  rw [List.take_add_one, List.any_append, List.getElem?_eq_getElem h]
  simp
def has_inv (raw : List Int) (x : ByteArray) (i : Nat) (out : List ByteArray) (p : PV) (obs : List (Nat × Ob)) (m : Nat) (st : St) : Prop := ∃ j : Nat, m = out.length - j ∧ j ≤ out.length ∧
  st = ⟨45, [(7, .val (.int .i64 j)), (6, .val (.bool (hasL (out.take j) x))), (5, .val (.string x)), (4, .val (.int .i64 i)), (3, p), (2, .val (.slice none 0 0)), (0, .rd 1 (rowsJ raw))], obs, 72⟩
theorem labels_call {raw : List Int} (hl : raw.length ≤ maxLen) (hr : ∀ n ∈ raw, isI64 n) : CallOk Tryz.prog 53 [.rd 1 (rowsJ raw)] [] (.rd 1 (strs (labsJ raw))) [] := by
  refine .of_exec Tryz.func53 rfl (enters_53) rfl rfl (Nat.le_of_ble_eq_true rfl) (fun n _ => rfl) ?_
  simp
  refine WPg.loopW (lab_inv raw) ⟨raw.length, _, ?_, ⟨0, [], by simp, by simp, by simp, by simp, rfl, .inl ⟨rfl, rfl, rfl⟩⟩⟩ ?_
  · exact Wk.rn [] rfl (by simp) (by simp) (by simp)
  rintro m st ⟨i, out, h1, h2, h3, h4, h5, h6⟩
  by_cases hi : i < raw.length ∧ i < 12
  · have hi1 : (i : Int) < raw.length := by omega
    have hi2 : (i : Int) < 12 := by omega
    have hw : IntKind.i64.wrap ((i : Int) + 1) = ((i + 1 : Nat) : Int) := by rw [w64 (by omega) (by omega)]; omega
    obtain ⟨x, hx⟩ : ∃ x, raw[i]'hi.1 = x := ⟨_, rfl⟩
    have hx64 : isI64 x := hr x (by rw [← hx]; exact List.getElem_mem _)
    have hd : (raw.take 12).drop i = x :: (raw.take 12).drop (i + 1) := by
      rw [List.drop_eq_getElem_cons (by rw [List.length_take]; omega), List.getElem_take, hx]
    rw [hd, labF] at h5
    have m1 : 1 ≤ maxLen := by decide
    rcases h6 with ⟨h7, h8, rfl⟩ | ⟨h7, rfl⟩
    · subst h7
      simp [hi.1, hi.2, hi1, hi2, hx]
      refine .plain (label11_call hx64) (by simp) (by simp) ?_
      simp
      refine WPg.loopW (has_inv raw (labJ x) i [] (.val (.slice none 0 0)) []) ⟨0, _, ?_, ⟨0, by simp, by simp, rfl⟩⟩ ?_
      · exact Wk.rn [] rfl (by simp) (by simp [hasL]) (by simp)
      rintro m' st ⟨j, g1, g2, rfl⟩
      simp at g2
      subst g2
      have hh : hasL [] (labJ x) = false := rfl
      rw [if_neg (by rw [hh]; simp)] at h5
      simp [hh, m1]
      have hs1 : strs ([] ++ [labJ x]) = [[.val (.string (labJ x))]] := rfl
      refine ⟨raw.length - (i + 1), by omega, _, ?_, ⟨i + 1, [] ++ [labJ x], rfl, by omega, by omega, by simp, h5, .inr ⟨by simp, rfl⟩⟩⟩
      rw [hw]
      exact Wk.rn [(144, 64)] rfl (by simp) (by simp) (by simp; rfl)
    · have hpos : 0 < out.length := List.length_pos_iff.2 h7
      simp [hi.1, hi.2, hi1, hi2, hx]
      refine .plain (label11_call hx64) (by simp) (by simp) ?_
      simp
      refine WPg.loopW (has_inv raw (labJ x) i out (.sl 64 1 0 out.length) [(64, strO out)]) ⟨out.length, _, ?_, ⟨0, by simp, by simp, rfl⟩⟩ ?_
      · exact Wk.rn [(64, 64)] rfl (by simp) (by simp [hasL]) (by simp)
      rintro m' st ⟨j, g1, g2, rfl⟩
      by_cases hj : j < out.length
      · have hj' : (j : Int) < out.length := by omega
        have hwj : IntKind.i64.wrap ((j : Int) + 1) = ((j + 1 : Nat) : Int) := by rw [w64 (by omega) (by omega)]; omega
        have hht := hasL_take (x := labJ x) hj
        obtain ⟨y, hy⟩ : ∃ y, out[j] = y := ⟨_, rfl⟩
        rw [hy] at hht
        cases hb : hasL (out.take j) (labJ x) with
        | true =>
          rw [hb, Bool.true_or] at hht
          simp [hj, hj', hb, hy]
          refine ⟨out.length - (j + 1), by omega, _, ?_, ⟨j + 1, rfl, by omega, rfl⟩⟩
          rw [hwj, hht]
          exact Wk.rn [(64, 64)] rfl (by simp) (by simp) (by simp)
        | false =>
          rw [hb, Bool.false_or] at hht
          simp [hj, hj', hb, hy]
          refine ⟨out.length - (j + 1), by omega, _, ?_, ⟨j + 1, rfl, by omega, rfl⟩⟩
          rw [hwj, hht]
          exact Wk.rn [(64, 64)] rfl (by simp) (by simp) (by simp)
      · obtain rfl : j = out.length := by omega
        cases hb : hasL out (labJ x) with
        | true =>
          rw [if_pos hb] at h5
          simp [hb]
          refine ⟨raw.length - (i + 1), by omega, _, ?_, ⟨i + 1, out, rfl, by omega, by omega, by omega, h5, .inr ⟨h7, rfl⟩⟩⟩
          rw [hw]
          exact Wk.rn [(64, 64)] rfl (by simp) (by simp) (by simp)
        | false =>
          rw [if_neg (by rw [hb]; simp)] at h5
          have hz : out.length ≤ 140737488355327 ∧ (out.length + 1) * 16 ≤ 140737488355328 := by omega
          simp [hb, m1]
          refine ⟨hz, fun _ _ => ⟨raw.length - (i + 1), by omega, _, ?_, ⟨i + 1, out ++ [labJ x], rfl, by omega, by omega, by simp; omega, h5, .inr ⟨by simp, rfl⟩⟩⟩⟩
          rw [hw]
          exact Wk.rn [(144, 64)] rfl (by simp) (by simp) (by simp)
  · have hend : labsJ raw = out := by
      rw [h5, List.drop_eq_nil_of_le (by rw [List.length_take]; omega)]; rfl
    rcases h6 with ⟨h7, h8, rfl⟩ | ⟨h7, rfl⟩
    · have hi1 : ¬ i < raw.length := by omega
      simp [hi1]
      exact .wk _ (Wk.nilRd 1 [(2, .rd 1 [])] (by simp)) (by simp) (by simp [hend, h7, strs_nil])
    · by_cases hi1 : i < raw.length
      · have hi2 : ¬ (i : Int) < 12 := by omega
        simp [hi1, hi2]
        exact .frz [64] [2] (by simp) (by simp) (by simp) (by simp) (by simp [hend])
      · simp [hi1]
        exact .frz [64] [2] (by simp) (by simp) (by simp) (by simp) (by simp [hend])
end Go.Proofs.YtbigcojlpcchiaaGreat.Sy
