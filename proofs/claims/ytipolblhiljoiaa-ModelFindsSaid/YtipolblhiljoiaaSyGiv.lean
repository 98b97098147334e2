/- Sy: a call that is given blocks for good: nobody writes to them any more. -/
import Derived.Test.YtipolblhiljoiaaSyKit
namespace Go.Proofs.Ytipolblhiljoiaa.Sy
open Go Go.RowKit
set_option linter.unusedVariables false
set_option linter.unusedSimpArgs false
theorem CallTo.give {P : Program} {f : FuncId} {args args' : List PV} {pre : List (Nat × Ob)} {r : PV} (B : List Nat) (h : CallOk P f args [] r []) (ha : args'.map (low1 pre B) = args) (hl : ∀ x ∈ args', lendOk1 pre B x) (hB : ∀ n ∈ B, ∃ o, lookO pre n = some o ∧ nfRows o.rows) (hr : flat2 r) :
    CallOk P f args' pre r [] := by
  have hnf : ∀ n ∈ B, ∀ o, lookO pre n = some o → nfRows o.rows := fun n hn o ho => by
    obtain ⟨o', h1, h2⟩ := hB n hn
    rw [ho] at h1; cases h1; exact h2
  refine ⟨h.1, fun C vs hargs hob hsub hsm => ?_⟩
  have hr0 : Rel (En.at C pre) C ⟨0, [], pre, 64⟩ { tmps := #[], defers := [] } := by
    refine ⟨by simp, fun t => .un _, hob.obs, hob.inj, fun nm ob b h1 h2 => .inl ⟨nm, ob, h1, h2⟩, hsub, Fr.refl _ _, fun b hb _ => .inl hb, fun b cur T fz h _ => h, fun n b h => h, ⟨[], rfl, List.nodup_nil, fun D hD => absurd hD (by simp)⟩⟩
  have hL : ReL (C.lend B) args vs := by
    subst ha
    exact ⟨by simpa using hargs.1, fun i h1 h2 => by rw [List.getElem_map]; exact (hargs.2 i (by simpa using h1) h2).low1 hr0 hnf (hl _ (List.getElem_mem _))⟩
  refine (h.2 (C.lend B) vs hL ⟨fun nm ob h => (by cases h), fun nm nm' b ob ob' h => (by cases h)⟩ (fun b hb => ?_) hsm).mono ?_
  · rcases hb with hb | ⟨n, hn, hb⟩
    · exact hsub b hb
    · obtain ⟨o, ho, _⟩ := hB n hn
      exact (hob.obs n o ho).lt hb
  rintro e W' ⟨v, C', he, rfl, hre, hp⟩
  refine ⟨v, ⟨C'.W, C.ρ, C'.S⟩, he, rfl, ?_, ⟨⟨fun nm ob h => (by cases h), fun nm nm' b ob ob' h => (by cases h)⟩, hp.sub, fun b h1 h2 => ?_, fun nm ob b h => (by cases h), fun nm ob b h1 h2 => h2, ?_⟩⟩
  · have := Re.rn2 (C := C') (C' := ⟨C'.W, C.ρ, C'.S⟩) (π := fun _ => none) rfl (fun n m b e => by cases e) (.inl fun b h => h) hre
    rwa [hr.rn] at this
  · rcases hp.old b h1 h2 with h | ⟨nm, ob, h, _⟩
    · rcases h with h | ⟨n, hn, hb⟩
      · exact .inl h
      · obtain ⟨o, ho, _⟩ := hB n hn
        exact .inr ⟨n, o, ho, hb⟩
    · cases h
  · exact ⟨hp.fr.os, hp.fr.tape, hp.fr.output, hp.fr.drawn, hp.fr.size, fun b hb hM => hp.fr.block b hb (fun ⟨nm, ob, h, _⟩ => by cases h), hp.fr.shp⟩
end Go.Proofs.Ytipolblhiljoiaa.Sy
