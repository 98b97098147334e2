/- Sy: what one box holds, said more weakly. -/
import Derived.Test.YtipolblhiljoiaaSyInts
namespace Go.Proofs.Ytipolblhiljoiaa.Sy
open Go Go.RowKit
set_option linter.unusedVariables false
set_option linter.unusedSimpArgs false
def setOb (B : Nat) (ob : Ob) : List (Nat × Ob) → List (Nat × Ob)
  | [] => []
  | x :: r => if x.1 = B then (x.1, ob) :: setOb B ob r else x :: setOb B ob r
theorem lookO_setOb (B : Nat) (ob : Ob) (k : Nat) : ∀ l, lookO (setOb B ob l) k = if k = B then (lookO l k).map (fun _ => ob) else lookO l k
  | [] => by simp [setOb, lookO]
  | (n, x) :: l => by
    have ih := lookO_setOb B ob k l
    by_cases h1 : n = B
    · by_cases h2 : n = k
      · have e : k = B := h2 ▸ h1
        simp [setOb, h1, lookO, e]
      · have h3 : ¬ B = k := fun e => h2 (h1.trans e)
        simp only [setOb, h1, if_true, lookO, if_neg h3]
        exact ih
    · by_cases h2 : n = k
      · have e : ¬ k = B := fun e => h1 (h2.trans e)
        simp [setOb, h1, lookO, h2, e]
      · simp only [setOb, if_neg h1, lookO, if_neg h2]
        exact ih
/-- One box's row. -/
theorem Wk.box1 {base : Nat} {st : St} (B T sz : Nat) (row row' : List PV) (hB : lookO st.obs B = some ⟨T, sz, [row], .cells⟩) (hr' : RowsOk sz [row']) (hl : row'.length = row.length) (hv : ∀ C vs, ReL C row vs → ReL C row' vs) : Wk base st ⟨st.n, st.regs, setOb B ⟨T, sz, [row'], .cells⟩ st.obs, st.new⟩ := by
  intro E C a hr hE hfr
  have hlo := fun t => lookO_setOb B ⟨T, sz, [row'], .cells⟩ t st.obs
  have hob : ∀ k ob, lookO (setOb B ⟨T, sz, [row'], .cells⟩ st.obs) k = some ob → ∃ ob0, lookO st.obs k = some ob0 ∧ (ob = ob0 ∨ k = B ∧ ob = ⟨T, sz, [row'], .cells⟩) := by
    intro k ob h
    rw [hlo] at h
    by_cases e2 : k = B
    · rw [if_pos e2] at h
      obtain ⟨ob0, h1, h2⟩ := Option.map_eq_some_iff.1 h
      exact ⟨ob0, h1, .inr ⟨e2, h2.symm⟩⟩
    · rw [if_neg e2] at h; exact ⟨ob, h, .inl rfl⟩
  refine ⟨C, rfl, ⟨hr.size, hr.regs, fun k ob h => ?_, fun k k' b o1 o2 g1 g2 g3 g4 => ?_, fun k ob b h h2 => ?_, hr.sub, hr.fr, hr.old, hr.up, hr.keep, hr.defs⟩, fun k hk => ?_⟩
  · obtain ⟨ob0, g1, rfl | ⟨rfl, rfl⟩⟩ := hob k ob h
    · exact hr.obs k ob g1
    · have h0 := hr.obs k _ hB
      obtain ⟨hrow, hh⟩ := h0.cells rfl
      refine .of_cells rfl hr' ?_
      rcases hh with ⟨q1, q2⟩ | ⟨b, cur, q1, q2, q3, q4⟩
      · cases q2
      · refine .inr ⟨b, cur, q1, q2, q3, ?_⟩
        simp only [List.flatten_cons, List.flatten_nil, List.append_nil] at q4 ⊢
        rw [hl]
        exact hv _ _ q4
  · obtain ⟨y, hy, _⟩ := hob k o1 g1
    obtain ⟨y', hy', _⟩ := hob k' o2 g2
    exact hr.inj k k' b y y' hy hy' g3 g4
  · obtain ⟨y, hy, _⟩ := hob k ob h
    exact hr.own k y b hy h2
  · have := hfr k hk
    refine ⟨this.1, ?_⟩
    show lookO (setOb B _ st.obs) k = none
    rw [hlo, this.2]; split <;> rfl
end Go.Proofs.Ytipolblhiljoiaa.Sy
