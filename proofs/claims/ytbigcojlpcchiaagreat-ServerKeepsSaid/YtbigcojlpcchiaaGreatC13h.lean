/- Layer 13: what is done twice, in parts; in plain words. -/
import Derived.Test.YtbigcojlpcchiaaGreatC13q
namespace Go.Proofs.YtbigcojlpcchiaaGreat.Sy
open Go Go.RowKit
set_option linter.unusedVariables false
set_option linter.unusedSimpArgs false
set_option maxRecDepth 10000
set_option maxHeartbeats 4000000
open Bk (Sto rowsB stoP putS getS delS RightI inB)
theorem mem_zip {ls cs : List ByteArray} (h : cs.length = ls.length) {l : ByteArray} (hl : l ∈ ls) : ∃ c, (l, c) ∈ ls.zip cs := by
  obtain ⟨i, hi, rfl⟩ := List.getElem_of_mem hl
  have hz : i < (ls.zip cs).length := by rw [List.length_zip]; omega
  exact ⟨cs[i], by rw [← List.getElem_zip (h := hz)]; exact List.getElem_mem _⟩
theorem do_of {s : Sto} {lim k : Int} {ls cs : List ByteArray} (hq : rightQ k ls cs = true) (hv : rightV s lim = true) : doV s lim k ls cs = if k = 1 then ((putV s lim ls cs).1, ⟨1, (putV s lim ls cs).2, [], 0, 0⟩) else if k = 2 then (s, ⟨2, 0, getsV s ls, 0, 0⟩) else if k = 3 then ((delsV s ls 0).1, ⟨3, 0, [], (delsV s ls 0).2, 0⟩) else (s, ⟨4, 0, [], s.many, lim - s.many⟩) := if_pos ⟨hq, hv⟩
theorem do_kind {s : Sto} {lim k : Int} {ls cs : List ByteArray} (hq : rightQ k ls cs = true) (hv : rightV s lim = true) : (doV s lim k ls cs).2.k = k := by
  obtain ⟨_, _, _, _, _, f6, f7, _⟩ := right_facts hq
  rw [do_of hq hv]
  split
  · simp only; omega
  · split
    · simp only; omega
    · split <;> (simp only; omega)
/-- A put that is done. -/
theorem put_done {s : Sto} {lim : Int} {ls cs : List ByteArray} (hq : rightQ 1 ls cs = true) (hv : rightV s lim = true) (ha : agreeV s ls cs) (hm : s.many + newN s ls ≤ lim) : putV s lim ls cs = (putsV s ls cs, 0) := by
  obtain ⟨f1, f2, f3, f4, f5, f6, f7, g1, _⟩ := right_facts hq
  obtain ⟨hr, _⟩ := rightV_iff.1 hv
  unfold putV
  rw [(goes_iff hr ls cs 0).1 ha (g1 rfl)]
  simp only
  rw [if_neg (by omega)]
theorem put_cases {s : Sto} {lim : Int} {ls cs : List ByteArray} (hq : rightQ 1 ls cs = true) (hv : rightV s lim = true) : (putV s lim ls cs = (s, 2)) ∨ (putV s lim ls cs = (s, 1)) ∨ (putV s lim ls cs = (putsV s ls cs, 0) ∧ agreeV s ls cs ∧ s.many + newN s ls ≤ lim) := by
  obtain ⟨f1, f2, f3, f4, f5, f6, f7, g1, _⟩ := right_facts hq
  obtain ⟨hr, _⟩ := rightV_iff.1 hv
  unfold putV
  cases hg : goesV s ls cs 0 with
  | none => exact .inl rfl
  | some m =>
    obtain ⟨h1, h2⟩ := (goes_iff hr ls cs 0).2 m (g1 rfl) hg
    simp only
    by_cases c : lim < s.many + m
    · rw [if_pos c]; exact .inr (.inl rfl)
    · rw [if_neg c]; exact .inr (.inr ⟨rfl, h1, by omega⟩)
/-- What is done twice. -/
theorem do_twice {s : Sto} {lim k : Int} {ls cs : List ByteArray} (hq : rightQ k ls cs = true) (hv : rightV s lim = true) : (doV (doV s lim k ls cs).1 lim k ls cs).1 = (doV s lim k ls cs).1 ∧ (k = 3 → (doV (doV s lim k ls cs).1 lim k ls cs).2.m = 0) ∧ (k ≠ 3 → (doV (doV s lim k ls cs).1 lim k ls cs).2 = (doV s lim k ls cs).2) ∧ (k ≠ 1 → k ≠ 3 → (doV s lim k ls cs).1 = s) := by
  obtain ⟨f1, f2, f3, f4, f5, f6, f7, g1, _⟩ := right_facts hq
  have hv' := do_right (k := k) (ls := ls) (cs := cs) hv
  obtain ⟨hr, l0, l1, l2⟩ := rightV_iff.1 hv
  have e := do_of hq hv
  have e' := do_of hq hv'
  by_cases k1 : k = 1
  · subst k1
    rw [if_pos rfl] at e e'
    rcases put_cases hq hv with h | h | ⟨h, ha, hm⟩
    · rw [h] at e
      rw [e] at e' ⊢
      simp only at e' ⊢
      rw [h] at e'
      rw [e']
      exact ⟨rfl, fun h => by omega, fun _ => rfl, fun h => absurd rfl h⟩
    · rw [h] at e
      rw [e] at e' ⊢
      simp only at e' ⊢
      rw [h] at e'
      rw [e']
      exact ⟨rfl, fun h => by omega, fun _ => rfl, fun h => absurd rfl h⟩
    · rw [h] at e
      rw [e] at e' hv' ⊢
      simp only at e' hv' ⊢
      obtain ⟨q1, q2, q3⟩ := puts_v ls cs s hr f3 f4 (g1 rfl) f5 (by omega)
      have hin : ∀ l c, (l, c) ∈ ls.zip cs → inB (putsV s ls cs).bs l c := fun l c hm => (q3 l c).2 (.inl hm)
      have hall : ∀ l ∈ ls, ∃ c, inB (putsV s ls cs).bs l c := fun l hl => by obtain ⟨c, hc⟩ := mem_zip (g1 rfl) hl; exact ⟨c, hin l c hc⟩
      have h2 := put_done hq hv' (fun l c c' hm hi => Bk.in_unique q1 hi (hin l c hm)) (by rw [newN_zero q1 hall, q2]; omega)
      rw [puts_same q1 ls cs hin] at h2
      rw [h2] at e'
      rw [e']
      exact ⟨rfl, fun h => by omega, fun _ => rfl, fun h => absurd rfl h⟩
  · rw [if_neg k1] at e e'
    by_cases k2 : k = 2
    · rw [if_pos k2] at e e'
      rw [e] at e' ⊢
      simp only at e' ⊢
      rw [e']
      exact ⟨rfl, fun h => by omega, fun _ => rfl, fun _ _ => trivial⟩
    · rw [if_neg k2] at e e'
      by_cases k3 : k = 3
      · rw [if_pos k3] at e e'
        rw [e] at e' ⊢
        simp only at e' ⊢
        obtain ⟨q1, q2, q3, q4⟩ := dels_v ls s 0 hr f5
        have := dels_none q1 ls 0 fun l hl c hc => ((q4 l c).1 hc).1 hl
        rw [this] at e'
        rw [e']
        exact ⟨rfl, fun _ => rfl, fun h => absurd k3 h, fun _ h => absurd k3 h⟩
      · rw [if_neg k3] at e e'
        rw [e] at e' ⊢
        simp only at e' ⊢
        rw [e']
        exact ⟨rfl, fun h => absurd h k3, fun _ => rfl, fun _ _ => trivial⟩
theorem right_sub {k k' : Int} {ls cs ls' cs' : List ByteArray} (hq : rightQ k ls cs = true) (h1 : ls'.Sublist ls) (h2 : cs'.Sublist cs) (hk : (k' = 1 ∧ cs'.length = ls'.length) ∨ ((k' = 2 ∨ k' = 3) ∧ cs' = [])) : rightQ k' ls' cs' = true := by
  obtain ⟨f1, f2, f3, f4, f5, f6, f7, g1, _⟩ := right_facts hq
  have c2 : ls'.all (sizeB 16) = true := List.all_eq_true.2 fun x hx => by simp [sizeB, f3 x (h1.subset hx)]
  have c3 : cs'.all (sizeB 40) = true := List.all_eq_true.2 fun x hx => by simp [sizeB, f4 x (h2.subset hx)]
  have c4 : ls'.Nodup := f5.sublist h1
  have c5 := h1.length_le
  unfold rightQ
  rw [if_neg (by rw [c2, c3]; simp [c4]; omega)]
  rcases hk with ⟨rfl, h⟩ | ⟨h, rfl⟩
  · rw [if_pos rfl]; simp [h]
  · rw [if_neg (by omega), if_neg (by omega)]
    simp [h]
end Go.Proofs.YtbigcojlpcchiaaGreat.Sy
