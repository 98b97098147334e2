/- Layer 12: the law BucketRoom. -/
import Derived.Test.YthijmjglpcljcaaB12aw
import Derived.Test.YthijmjglpcljcaaB12Wb
import Derived.Test.YthijmjglpcljcaaB12Li
namespace Go.Proofs.Ythijmjglpcljcaa.Sy
open Go Go.RowKit
set_option linter.unusedVariables false
set_option linter.unusedSimpArgs false
set_option maxRecDepth 10000
set_option maxHeartbeats 4000000
abbrev boxS (s : Sto) : List (List PV) := [[.rd 3 (rowsB s.bs), .val (.int .i64 s.many), .val (.int .i64 s.gone)]]
def room_inv (raw : List Int) (m : Nat) (st : St) : Prop := ∃ i s, m = raw.length - i ∧ i ≤ raw.length ∧ i ≤ 150 ∧ RoomI s ∧
  st = ⟨88, [(6, .val (.int .i64 (i : Nat))), (5, .val (.int .i64 0)), (4, .ref 72 3 0 0), (3, .val (.bool true)), (0, .rd 1 (rowsI raw))], [(72, ⟨31, 3, boxS s, .cells⟩)], 80⟩
theorem room_call (raw : List Int) (h64 : ∀ x ∈ raw, isI64 x) (hl : raw.length ≤ 9223372036854775807) : CallOk Try.prog 6 [.rd 1 (rowsI raw)] [] (.val (.bool true)) [] := by
  refine .of_exec Try.func6 rfl (enters_6) rfl rfl (Nat.le_of_ble_eq_true rfl) (fun n _ => rfl) ?_
  simp
  refine .plain awake_call (by simp) (by simp) ?_
  simp
  refine .plain (new_call fresh8) (by simp) (by simp) ?_
  simp
  refine WPg.loopW (room_inv raw) ⟨raw.length, _, ?_, ⟨0, freshS 8, by simp, by simp, by simp, room_fresh, rfl⟩⟩ ?_
  · exact Wk.rn [(120, 72)] rfl (by simp) (by simp) (by simp)
  rintro m st ⟨i, s, g1, g2, g3, hs, rfl⟩
  have hr := right_small hs.1
  by_cases hi : i < raw.length
  · by_cases h60 : i < 150
    · have hi' : (i : Int) < raw.length := by omega
      have h60' : (i : Int) < 150 := by omega
      have hw : IntKind.i64.wrap ((i : Int) + 1) = ((i + 1 : Nat) : Int) := by rw [w64 (by omega) (by omega)]; omega
      obtain ⟨x, hx⟩ : ∃ x, raw[i] = x := ⟨_, rfl⟩
      have x1 : isI64 x := h64 x (by rw [← hx]; exact List.getElem_mem hi)
      obtain ⟨t, u, e1, e2, ht, hu, hg⟩ := room_step hs x i
      have hg' : ¬ 6 < u.gone := by omega
      have tz := right_small ht
      have uz := right_small hu.1
      have cp := put_call s (labI x) (cellI i) (by omega)
      rw [e1] at cp
      have cd := del_call t (labI x) (by omega)
      rw [e2] at cd
      simp [hi, hi', h60', hx]
      refine callT.plain (label_call x1) (by simp) (by simp) ?_
      simp
      refine callT.plain (cell_call (show isI64 (i : Int) from ⟨by omega, by omega⟩)) (by simp) (by simp) ?_
      simp
      refine callT.plain cp (by simp) (by simp) ?_
      simp [hi, hi', hx]
      refine ⟨rfl, ?_⟩
      refine callT.plain (label_call x1) (by simp) (by simp) ?_
      simp
      refine callT.plain cd (by simp) (by simp) ?_
      simp [hu.2.1, hu.2.2, hg']
      refine ⟨rfl, raw.length - (i + 1), by omega, _, ?_, ⟨i + 1, u, rfl, by omega, by omega, hu, rfl⟩⟩
      rw [hw]
      exact Wk.rn [(72, 72)] rfl (by simp) (by simp) (by simp [hu.2.1])
    · obtain rfl : i = 150 := by omega
      have hi' : (150 : Int) < raw.length := by omega
      simp [hi']
      refine .plain (all_call s (by omega)) (by simp) (by simp) ?_
      simp [room_all hs]
      exact .plain (by simp) (by simp)
  · obtain rfl : i = raw.length := by omega
    simp
    refine .plain (all_call s (by omega)) (by simp) (by simp) ?_
    simp [room_all hs]
    exact .plain (by simp) (by simp)
end Go.Proofs.Ythijmjglpcljcaa.Sy
