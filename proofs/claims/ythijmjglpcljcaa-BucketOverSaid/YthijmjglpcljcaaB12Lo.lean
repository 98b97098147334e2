/- Layer 12: the law BucketOver. -/
import Derived.Test.YthijmjglpcljcaaB12aw
import Derived.Test.YthijmjglpcljcaaB12z
namespace Go.Proofs.Ythijmjglpcljcaa.Sy
open Go Go.RowKit
set_option linter.unusedVariables false
set_option linter.unusedSimpArgs false
set_option maxRecDepth 10000
set_option maxHeartbeats 4000000
theorem in_size {s : Sto} (h : RightI s) {l c : ByteArray} (h1 : inB s.bs l c) : l.size = 16 ∧ c.size = 40 := by
  obtain ⟨j, j1, j2, rfl, rfl⟩ := h1
  have := h.may j j1
  unfold mayB at this
  rw [if_pos j2] at this
  simp only [Bool.and_eq_true, decide_eq_true_eq] at this
  omega
/-- A cell put over another one, and back. -/
theorem over_back {s : Sto} (h : RightI s) {l c c0 : ByteArray} (hc : c.size = 40) (h1 : inB s.bs l c0) : putS (putS s l c).1 l c0 = (s, 0) ∧ (putS s l c).2 = 0 ∧ (putS s l c).1.many = s.many ∧ RightI (putS s l c).1 := by
  obtain ⟨hl, hc0⟩ := in_size h h1
  obtain ⟨k, k1, k2, k3, k4, he, hr, hi⟩ := put_over (c := c) h hl hc h1
  obtain ⟨k', j1, j2, j3, j4, he', _, _⟩ := put_over (c := c0) hr hl hc0 ((hi l c).2 (.inl ⟨rfl, rfl⟩))
  have hk : atB (putS s l c).1.bs k = { atB s.bs k with cell := c } := by
    rw [he]; exact (atB_set k1).trans (if_pos rfl)
  have hkl : k < (putS s l c).1.bs.length := by rw [he]; simpa using k1
  obtain rfl : k = k' := hr.dist k k' hkl j1 (by rw [hk]; exact k2) j2 (by rw [hk, j3]; exact k3)
  refine ⟨?_, by rw [he], by rw [he], hr⟩
  rw [he', hk, he]
  have e : (s.bs.set k { atB s.bs k with cell := c }).set k { atB s.bs k with cell := c0 } = s.bs := by
    rw [List.set_set, ← k4]
    show s.bs.set k (atB s.bs k) = s.bs
    rw [atB_get k1, List.set_getElem_self]
  show ((⟨(s.bs.set k { atB s.bs k with cell := c }).set k { atB s.bs k with cell := c0 }, s.many, s.gone⟩ : Sto), (0 : Int)) = (s, 0)
  rw [e]
theorem over_call (raw : List Stp) (n c : Int) (h64 : steps64 raw) (hl : raw.length ≤ 9223372036854775807) (hn : isI64 n) (hc : isI64 c) : CallOk Try.prog 8 [.rd 3 (rows3 raw), .val (.int .i64 n), .val (.int .i64 c)] [] (.val (.bool true)) [] := by
  refine .of_exec Try.func8 rfl (enters_8) rfl rfl (Nat.le_of_ble_eq_true rfl) (fun n _ => rfl) ?_
  have hr := store_right raw
  have hlb := store_labs raw
  have hst := store_call raw h64 hl
  obtain ⟨s, hs⟩ : ∃ s, s = storeS raw := ⟨_, rfl⟩
  rw [← hs] at hr hlb hst
  simp
  refine .plain awake_call (by simp) (by simp) ?_
  simp
  refine .plain hst (by simp) (by simp) ?_
  have sz := right_small hr
  rcases in_dec s (labI n) with ⟨c0, h0⟩ | h0
  · have g1 := get_in hr h0
    have cg := get_call s (labI n) (by omega)
    rw [g1] at cg
    obtain ⟨o1, o2, o3, o4⟩ := over_back (c := cellI c) hr (cellI_size c) h0
    obtain ⟨v, d1, d2, d3, d4, d5, d6⟩ := del_in hr h0
    have dn : ∀ c', ¬ inB v.bs (labI n) c' := fun c' hin => ((d6 _ _).1 hin).1 rfl
    have d7 := del_not d2 dn
    obtain ⟨t, ht⟩ : ∃ t, t = (putS s (labI n) (cellI c)).1 := ⟨_, rfl⟩
    have ct := put_call s (labI n) (cellI c) (by omega)
    rw [o2, ← ht] at ct
    rw [← ht] at o1 o3 o4
    have tz := right_small o4
    have vz := right_small d2
    have cu := put_call t (labI n) c0 (by omega)
    rw [o1] at cu
    have cv := del_call s (labI n) (by omega)
    rw [d1] at cv
    have cx := del_call v (labI n) (by omega)
    rw [d7] at cx
    simp
    refine .plain (label_call hn) (by simp) (by simp) ?_
    simp
    refine callT.plain cg (by simp) (by simp) ?_
    simp
    refine ⟨rfl, callT.plain (label_call hn) (by simp) (by simp) ?_⟩
    simp
    refine callT.plain (cell_call hc) (by simp) (by simp) ?_
    simp
    refine callT.plain ct (by simp) (by simp) ?_
    simp
    refine ⟨rfl, callT.plain (label_call hn) (by simp) (by simp) ?_⟩
    simp
    refine callT.plain cu (by simp) (by simp) ?_
    simp
    refine ⟨rfl, callT.plain (label_call hn) (by simp) (by simp) ?_⟩
    simp
    refine callT.plain cv (by simp) (by simp) ?_
    simp
    refine ⟨rfl, callT.plain (label_call hn) (by simp) (by simp) ?_⟩
    simp
    refine callT.plain cx (by simp) (by simp) ?_
    simp
    refine ⟨rfl, .plain (same_call v (by omega)) (by simp) (by simp) ?_⟩
    have w1 : IntKind.i64.wrap (s.many - 1) = s.many - 1 := w64 (by omega) (by omega)
    have w2 : IntKind.i64.wrap (s.gone + 1) = s.gone + 1 := w64 (by omega) (by omega)
    simp
    refine .plain (same_call s (by omega)) (by simp) (by simp) ?_
    simp [o3, d3, d4, w1, w2]
    exact .plain (by simp) (by simp)
  · have g1 := get_not hr h0
    have cg := get_call s (labI n) (by omega)
    rw [g1] at cg
    obtain ⟨he, o4, o3, _⟩ := put_new (c := cellI c) hr (labI_size n) (cellI_size c) h0 (.inr (wide40 hr (used40 hr hlb).2))
    have o2 : (putS s (labI n) (cellI c)).2 = 0 := by rw [he]
    have d7 := del_not hr h0
    obtain ⟨t, ht⟩ : ∃ t, t = (putS s (labI n) (cellI c)).1 := ⟨_, rfl⟩
    have ct := put_call s (labI n) (cellI c) (by omega)
    rw [o2, ← ht] at ct
    rw [← ht] at o3 o4
    have tz := right_small o4
    have o1 : putS t (labI n) ⟨#[]⟩ = (t, 1) := put_bad (by rw [show decide ((((⟨#[]⟩ : ByteArray).size : Nat) : Int) = 40) = false by decide, Bool.and_false])
    have cu := put_call t (labI n) ⟨#[]⟩ (by omega)
    rw [o1] at cu
    have cv := del_call s (labI n) (by omega)
    rw [d7] at cv
    have cx := del_call s (labI n) (by omega)
    rw [d7] at cx
    simp
    refine .plain (label_call hn) (by simp) (by simp) ?_
    simp
    refine callT.plain cg (by simp) (by simp) ?_
    simp
    refine ⟨rfl, callT.plain (label_call hn) (by simp) (by simp) ?_⟩
    simp
    refine callT.plain (cell_call hc) (by simp) (by simp) ?_
    simp
    refine callT.plain ct (by simp) (by simp) ?_
    simp
    refine ⟨rfl, callT.plain (label_call hn) (by simp) (by simp) ?_⟩
    simp
    refine callT.plain cu (by simp) (by simp) ?_
    simp
    refine ⟨rfl, callT.plain (label_call hn) (by simp) (by simp) ?_⟩
    simp
    refine callT.plain cv (by simp) (by simp) ?_
    simp
    refine ⟨rfl, callT.plain (label_call hn) (by simp) (by simp) ?_⟩
    simp
    refine callT.plain cx (by simp) (by simp) ?_
    simp
    refine ⟨rfl, .plain (same_call s (by omega)) (by simp) (by simp) ?_⟩
    have w1 : IntKind.i64.wrap (s.many + 1) = s.many + 1 := w64 (by omega) (by omega)
    simp [o3, w1]
    refine .plain (same_call s (by omega)) (by simp) (by simp) ?_
    simp
    exact .plain (by simp) (by simp)
end Go.Proofs.Ythijmjglpcljcaa.Sy
