/- How a row's data read as the printed kinds: whole numbers, bools, texts, slices of what reads so. -/
import Derived.Test.YtpmjnggkhjjiaaaWMore
import Derived.ChangeArms
import Derived.ChangeOld
import Derived.DataReads
namespace Go.Proofs.Ytpmjnggkhjjiaaa.Opn
open Go.RowKit Go.Proofs.YtpmjnggkhjjiaaaW.PrintWords

/-- Whatever data of type t read in a world, its cells read there as some a of the kind d, of which B holds. -/
def Opens (P : Program) (t : TypeId) {α : Type} (d : Kd α) (B : α → Prop) : Prop :=
  ∀ {H : Type} {enc : TypeId × Value → H} {w : World} {base : Nat} {spare : Nat → Bool} {held : Bool} {fuel : Nat} {cs : List Value} {x : DataW H × List MemPlace},
    DataW.trod enc P w base spare held fuel t cs = some x → ∃ a, d.K w a cs ∧ B a

variable {P : Program}
theorem opens_int {t : TypeId} {k : IntKind} (ht : P.underlying t = some (.int k)) : Opens P t (Kd.int k) (fun n => (Lit.int k n).wf = true) := by
  intro H enc w base spare held fuel cs x h
  obtain ⟨n, rfl, _, hw⟩ := DataW.trod_int ht h
  exact ⟨n, rfl, hw⟩
theorem opens_string {t : TypeId} (ht : P.underlying t = some .string) : Opens P t Kd.string (fun s => s.size ≤ maxLen) := by
  intro H enc w base spare held fuel cs x h
  obtain ⟨s, rfl, _, hs⟩ := DataW.trod_string ht h
  exact ⟨s, rfl, hs⟩

theorem opens_slice {α : Type} {t e : TypeId} {d : Kd α} {B : α → Prop} (ht : P.underlying t = some (.slice e)) (hsz : P.cellsOf e = d.sz) (he : Opens P e d B) :
    Opens P t (Kd.slice e d) (fun l => l.length ≤ maxLen ∧ ∀ a ∈ l, B a) := by
  intro H enc w base spare held fuel cs x h
  rcases DataW.trod_slice ht h with ⟨rfl, _⟩ | ⟨ad, len, cap, elems, rest, n, _, rfl, _, hb, hl, hm, hlen, hel, _⟩
  · exact ⟨[], ⟨none, 0, rfl, Nat.le_refl _, ⟨rfl, by simp, fun h0 => by simp at h0⟩⟩, by simp, by simp⟩
  · have each : ∀ i, i < len → ∃ a : α, ∃ c : List Value, d.K w a c ∧ B a ∧ ∀ j u, c[j]? = some u → w.cell? (ad.add (i * d.sz + j)) = some u := by
      intro i hi
      have h1 := hel i hi
      rw [List.getElem?_eq_getElem (by omega)] at h1
      obtain ⟨c, hc, ht2⟩ := Option.bind_eq_some_iff.1 h1
      obtain ⟨a, hK, hB⟩ := he ht2
      obtain ⟨_, hcl, hcc⟩ := World.cells?_some hc
      refine ⟨a, c, hK, hB, fun j u hu => ?_⟩
      have hj : j < P.cellsOf e := by rw [← hcl]; exact (List.getElem?_eq_some_iff.1 hu).1
      have h2 := hcc j hj
      rw [hu, hsz] at h2
      rw [← h2]
      congr 1
      simp only [Addr.add]
      split <;> split <;> split <;> (try rfl) <;> (try omega) <;> simp <;> omega
    have list : ∀ m, m ≤ len → ∃ xs : List α, xs.length = m ∧ ∀ i a, xs[i]? = some a → ∃ c : List Value, d.K w a c ∧ B a ∧ ∀ j u, c[j]? = some u → w.cell? (ad.add (i * d.sz + j)) = some u := by
      intro m
      induction m with
      | zero => exact fun _ => ⟨[], rfl, fun i a h => by simp at h⟩
      | succ m ih =>
        intro hm1
        obtain ⟨xs, hxl, hxs⟩ := ih (by omega)
        obtain ⟨a, c, hK, hB, hc⟩ := each m (by omega)
        refine ⟨xs ++ [a], by simp [hxl], fun i b hb2 => ?_⟩
        by_cases hi : i < m
        · rw [List.getElem?_append_left (by omega)] at hb2
          exact hxs i b hb2
        · have hil := (List.getElem?_eq_some_iff.1 hb2).1
          simp only [List.length_append, List.length_singleton, hxl] at hil
          obtain rfl : i = m := by omega
          rw [List.getElem?_append_right (by omega), hxl, Nat.sub_self] at hb2
          obtain rfl : a = b := by simpa using hb2
          exact ⟨c, hK, hB, hc⟩
    obtain ⟨xs, hxl, hxs⟩ := list len (Nat.le_refl _)
    refine ⟨xs, ⟨some ad, cap, by rw [hxl], by omega, ⟨rfl, by rw [hxl]; exact Nat.le_trans hl (by simpa [maxLen] using hm), fun _ => ⟨ad, rfl, fun j p hj => ?_⟩⟩⟩, by rw [hxl]; omega, fun a ha => ?_⟩
    · obtain ⟨c, hK, _, hc⟩ := hxs j p hj
      exact ⟨c, d.K_len hK, hK, hc⟩
    · obtain ⟨i, hi⟩ := List.getElem?_of_mem ha
      obtain ⟨_, _, hB, _⟩ := hxs i a hi
      exact hB
end Go.Proofs.Ytpmjnggkhjjiaaa.Opn
