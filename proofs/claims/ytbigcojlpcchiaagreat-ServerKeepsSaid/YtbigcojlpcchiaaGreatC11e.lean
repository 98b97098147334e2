/- Layer 11: what is written of a request. -/
import Derived.Test.YtbigcojlpcchiaaGreatC11r
namespace Go.Proofs.YtbigcojlpcchiaaGreat.Sy
open Go Go.RowKit
set_option linter.unusedVariables false
set_option linter.unusedSimpArgs false
set_option maxRecDepth 10000
set_option maxHeartbeats 4000000
theorem right_facts {k : Int} {ls cs : List ByteArray} (h : rightQ k ls cs = true) : ls.length ≤ 200 ∧ cs.length ≤ 200 ∧ (∀ x ∈ ls, x.size = 16) ∧ (∀ x ∈ cs, x.size = 40) ∧ ls.Nodup ∧ 1 ≤ k ∧ k ≤ 4 ∧
    (k = 1 → cs.length = ls.length) ∧ (k = 4 → cs = [] ∧ ls = []) ∧ (k ≠ 1 → cs = []) := by
  unfold rightQ at h
  split at h
  · cases h
  rename_i c
  have c1 : ¬ 200 < ls.length := fun e => c (.inl e)
  have c2 : ls.all (sizeB 16) = true := Bool.of_not_eq_false fun e => c (.inr (.inl e))
  have c3 : cs.all (sizeB 40) = true := Bool.of_not_eq_false fun e => c (.inr (.inr (.inl e)))
  have c4 : ls.Nodup := Classical.byContradiction fun e => c (.inr (.inr (.inr e)))
  have d2 : ∀ x ∈ ls, x.size = 16 := fun x hx => by have := List.all_eq_true.1 c2 x hx; unfold sizeB at this; simp only [decide_eq_true_eq] at this; omega
  have d3 : ∀ x ∈ cs, x.size = 40 := fun x hx => by have := List.all_eq_true.1 c3 x hx; unfold sizeB at this; simp only [decide_eq_true_eq] at this; omega
  have z : ∀ {l : List ByteArray}, l.length = 0 → l = [] := fun h => List.eq_nil_of_length_eq_zero h
  split at h
  · rename_i k1
    simp only [decide_eq_true_eq] at h
    exact ⟨by omega, by omega, d2, d3, c4, by omega, by omega, fun _ => h, fun e => by omega, fun e => absurd k1 e⟩
  · rename_i k1
    split at h
    · rename_i k4
      simp only [decide_eq_true_eq] at h
      exact ⟨by omega, by omega, d2, d3, c4, by omega, by omega, fun e => absurd e k1, fun _ => ⟨z (by omega), z (by omega)⟩, fun _ => z (by omega)⟩
    · rename_i k4
      simp only [decide_eq_true_eq] at h
      exact ⟨by omega, by omega, d2, d3, c4, by omega, by omega, fun e => absurd e k1, fun e => absurd e k4, fun _ => z h.2⟩
theorem listR_size : ∀ (l : List ByteArray) (acc b : ByteArray), listR l acc = some b → acc.size ≤ 65536 → b.size ≤ 65536
  | [], acc, b, h, h2 => by cases h; exact h2
  | x :: r, acc, b, h, h2 => by
    rw [listR_cons] at h
    split at h
    · cases h
    · rename_i c
      refine listR_size r _ b h ?_
      rw [ByteArray.size_append, ByteArray.size_append, numS_size]
      have : ¬ 65536 < acc.size + (4 + x.size) := fun e => c (.inr e)
      omega
theorem listE_size (l : List ByteArray) : (listE l).1.size ≤ 65536 := by
  unfold listE
  split
  · exact Nat.zero_le _
  · cases h : listR l (numS l.length) with
    | none => exact Nat.zero_le _
    | some b => exact listR_size l _ b h (by rw [numS_size]; omega)
def encQ (k : Int) (ls cs : List ByteArray) : ByteArray × Int := if rightQ k ls cs = true then (catB [(numE k).1, (listE ls).1, (listE cs).1], 0) else (⟨#[]⟩, 1)
theorem Encode_call {k : Int} {ls cs : List ByteArray} (hk : isI64 k) (hl : ls.length ≤ 4294967296) (hc : cs.length ≤ 4294967296) : CallOk Tryz.prog 35 [reqP k ls cs] [] (.tup [.val (.string (encQ k ls cs).1), eN (encQ k ls cs).2]) [] := by
  refine .of_exec Tryz.func35 rfl (enters_35) rfl rfl (Nat.le_of_ble_eq_true rfl) (fun n _ => rfl) ?_
  simp
  refine .plain (right_call hk hl hc) (by simp) (by simp) ?_
  cases c : rightQ k ls cs with
  | false =>
    have e : encQ k ls cs = (⟨#[]⟩, 1) := if_neg (by rw [c]; simp)
    simp
    exact .plain (by simp) (by simp [e])
  | true =>
    obtain ⟨f1, f2, f3, f4, f5, f6, f7, _⟩ := right_facts c
    have e : encQ k ls cs = (catB [(numE k).1, (listE ls).1, (listE cs).1], 0) := if_pos c
    have en : (numE k).1 = numS k := by unfold numE; rw [if_neg (by omega)]
    have m1 : ls.length ≤ maxLen ∧ cs.length ≤ maxLen := by unfold maxLen; omega
    have m2 : (∀ x ∈ ls, x.size ≤ maxLen) ∧ (∀ x ∈ cs, x.size ≤ maxLen) := ⟨fun x hx => by rw [f3 x hx]; decide, fun x hx => by rw [f4 x hx]; decide⟩
    have hw := whole_call (l := [(numE k).1, (listE ls).1, (listE cs).1]) (by simp) (by simp; decide) (by rw [en]; simp [numS_size]) (by
      have h1 := listE_size ls
      have h2 := listE_size cs
      have h3 : (numE k).1.size = 4 := by rw [en, numS_size]
      simp only [sumS]; omega)
    simp
    refine .plain (number_call hk) (by simp) (by simp) ?_
    simp
    refine .plain (list_call m1.1 m2.1) (by simp) (by simp) ?_
    simp
    refine .plain (list_call m1.2 m2.2) (by simp) (by simp) ?_
    have m3 : 3 ≤ maxLen := by decide
    simp [m3]
    refine callT.own [184] [] hw (by simp [rowsV]) (by simp) (by simp) (by simp) (by simp) (by simp) (by simp) (by simp) (by simp) (by simp) ?_
    simp
    refine ⟨rfl, ?_⟩
    exact .plain (by simp) (by simp [e])
end Go.Proofs.YtbigcojlpcchiaaGreat.Sy
