/- Layer 17: the laws' parameters. -/
import Derived.Test.YtipolblhiljoiaaC17v
import Derived.Test.YtipolblhiljoiaaC16t
namespace Go.Proofs.Ytipolblhiljoiaa.Sy
open Go Go.RowKit
set_option linter.unusedVariables false
set_option linter.unusedSimpArgs false
set_option maxRecDepth 10000
set_option maxHeartbeats 4000000
theorem pick17_call {c n : Int} (hc : isI64 c) (hn : 0 < n ∧ n ≤ 9223372036854775807) :
    CallOk Try.prog 10 [.val (.int .i64 c), .val (.int .i64 n)] [] (.val (.int .i64 (pickI c n))) [] := by
  refine .of_exec Try.func10 rfl (enters_10) rfl rfl (Nat.le_of_ble_eq_true rfl) (fun n _ => rfl) ?_
  have h0 : n ≠ 0 := by omega
  unfold isI64 at hc
  by_cases h : c < 0
  · have w1 : IntKind.i64.wrap (c + 1) = c + 1 := w64 (by omega) (by omega)
    have w2 : IntKind.i64.wrap (-(c + 1)) = -(c + 1) := w64 (by omega) (by omega)
    have hm : (-(c + 1)).tmod n = pickI c n := by rw [Int.tmod_eq_emod_of_nonneg (by omega)]; simp [pickI, h]
    simp [h, h0, w1, w2, hm]
    exact .plain (by simp) (by simp)
  · have hm : c.tmod n = pickI c n := by rw [Int.tmod_eq_emod_of_nonneg (by omega)]; simp [pickI, h]
    simp [h, h0, hm]
    exact .plain (by simp) (by simp)
/-- What an operation is picked from: a pair of numbers and a text's numbers. -/
structure RawW where
  a : Int
  b : Int
  t : List Int
def kindsL : List Int := [1, 1, 1, 2, 3, 4, 4, 5, 6]
def kindW (a : Int) : Int := kindsL.getD (pickI a 9).toNat 0
def txtW (k : Int) (t : List Int) : ByteArray := if k = 1 ∨ k = 3 then textW t else if k = 4 then textW (t.take 2) else if k = 5 then textW (t.take 1) else ⟨#[]⟩
structure OpW where
  k : Int
  id : Int
  s : ByteArray
abbrev OpW.P (o : OpW) : PV := opP o.k o.id o.s
def opW (r : RawW) : OpW := ⟨kindW r.a, pickI r.b 9, txtW (kindW r.a) r.t⟩
theorem Op_call {a b : Int} {t : List Int} (ha : isI64 a) (hb : isI64 b) (ht : t.length ≤ maxLen) (hi : ∀ x ∈ t, isI64 x) :
    CallOk Try.prog 18 [.agg [.val (.int .i64 a), .val (.int .i64 b)], .rd 1 (intsR t)] [] ((opW ⟨a, b, t⟩).P) [] := by
  refine .of_exec Try.func18 rfl (enters_18) rfl rfl (Nat.le_of_ble_eq_true rfl) (fun n _ => rfl) ?_
  obtain ⟨n, hn, hlt⟩ := pickN (c := a) (n := 9) (by omega)
  have hn' : pickI a 9 = n := hn
  have hp := pick17_call (c := a) (n := 9) ha (by omega)
  have hq := pick17_call (c := b) (n := 9) hb (by omega)
  rw [hn'] at hp
  have hT := Text_call ht hi
  have hm : isI64 (t.length : Int) := by unfold isI64; unfold maxLen at ht; omega
  unfold maxLen at ht
  have h9 : n = 0 ∨ n = 1 ∨ n = 2 ∨ n = 3 ∨ n = 4 ∨ n = 5 ∨ n = 6 ∨ n = 7 ∨ n = 8 := by omega
  have m9 : 9 ≤ maxLen := by decide
  have eO : opW ⟨a, b, t⟩ = ⟨kindsL.getD n 0, pickI b 9, txtW (kindsL.getD n 0) t⟩ := by simp [opW, kindW, hn']
  rw [eO]
  have cutE : ∀ c : Nat, t.take (if (c : Int) < t.length then (c : Int) else t.length).toNat = t.take c := fun c => by
    by_cases h : (c : Int) < t.length
    · rw [if_pos h]; rfl
    · rw [if_neg h, Int.toNat_natCast, List.take_length, List.take_of_length_le (by omega)]
  have e2 : t.take (if (2 : Int) < (t.length : Int) then (2 : Int) else (t.length : Int)).toNat = t.take 2 := cutE 2
  have e1 : t.take (if (1 : Int) < (t.length : Int) then (1 : Int) else (t.length : Int)).toNat = t.take 1 := cutE 1
  have b2 : (0 ≤ if (2 : Int) < (t.length : Int) then (2 : Int) else t.length) ∧ (if (2 : Int) < (t.length : Int) then (2 : Int) else t.length) ≤ (t.length : Int) := by split <;> omega
  have b1 : (0 ≤ if (1 : Int) < (t.length : Int) then (1 : Int) else t.length) ∧ (if (1 : Int) < (t.length : Int) then (1 : Int) else t.length) ≤ (t.length : Int) := by split <;> omega
  have hT2 := Text_call (l := t.take 2) (by rw [List.length_take]; unfold maxLen; omega) (fun x hx => hi x (List.mem_of_mem_take hx))
  have hT1 := Text_call (l := t.take 1) (by rw [List.length_take]; unfold maxLen; omega) (fun x hx => hi x (List.mem_of_mem_take hx))
  rcases h9 with rfl | rfl | rfl | rfl | rfl | rfl | rfl | rfl | rfl
  · simp
    refine ⟨m9, fun _ => ?_⟩
    refine callK.plain hp (by simp) (by simp) ?_
    simp
    refine callK.plain hq (by simp) (by simp) ?_
    simp
    refine callK.plain hT (by simp) (by simp) ?_
    simp
    exact .plain (by simp) (by simp [kindsL, txtW])
  · simp
    refine ⟨m9, fun _ => ?_⟩
    refine callK.plain hp (by simp) (by simp) ?_
    simp
    refine callK.plain hq (by simp) (by simp) ?_
    simp
    refine callK.plain hT (by simp) (by simp) ?_
    simp
    exact .plain (by simp) (by simp [kindsL, txtW])
  · simp
    refine ⟨m9, fun _ => ?_⟩
    refine callK.plain hp (by simp) (by simp) ?_
    simp
    refine callK.plain hq (by simp) (by simp) ?_
    simp
    refine callK.plain hT (by simp) (by simp) ?_
    simp
    exact .plain (by simp) (by simp [kindsL, txtW])
  · simp
    refine ⟨m9, fun _ => ?_⟩
    refine callK.plain hp (by simp) (by simp) ?_
    simp
    refine callK.plain hq (by simp) (by simp) ?_
    simp
    exact .plain (by simp) (by simp [kindsL, txtW])
  · simp
    refine ⟨m9, fun _ => ?_⟩
    refine callK.plain hp (by simp) (by simp) ?_
    simp
    refine callK.plain hq (by simp) (by simp) ?_
    simp
    refine callK.plain hT (by simp) (by simp) ?_
    simp
    exact .plain (by simp) (by simp [kindsL, txtW])
  · simp
    refine ⟨m9, fun _ => ?_⟩
    refine callK.plain hp (by simp) (by simp) ?_
    simp
    refine callK.plain hq (by simp) (by simp) ?_
    simp
    refine ⟨b2, fun _ _ => ?_⟩
    rw [e2]
    refine callK.plain hT2 (by simp) (by simp) ?_
    simp
    exact .plain (by simp) (by simp [kindsL, txtW])
  · simp
    refine ⟨m9, fun _ => ?_⟩
    refine callK.plain hp (by simp) (by simp) ?_
    simp
    refine callK.plain hq (by simp) (by simp) ?_
    simp
    refine ⟨b2, fun _ _ => ?_⟩
    rw [e2]
    refine callK.plain hT2 (by simp) (by simp) ?_
    simp
    exact .plain (by simp) (by simp [kindsL, txtW])
  · simp
    refine ⟨m9, fun _ => ?_⟩
    refine callK.plain hp (by simp) (by simp) ?_
    simp
    refine callK.plain hq (by simp) (by simp) ?_
    simp
    refine ⟨b1, fun _ _ => ?_⟩
    rw [e1]
    refine callK.plain hT1 (by simp) (by simp) ?_
    simp
    exact .plain (by simp) (by simp [kindsL, txtW])
  · simp
    refine ⟨m9, fun _ => ?_⟩
    refine callK.plain hp (by simp) (by simp) ?_
    simp
    refine callK.plain hq (by simp) (by simp) ?_
    simp
    exact .plain (by simp) (by simp [kindsL, txtW])
end Go.Proofs.Ytipolblhiljoiaa.Sy
