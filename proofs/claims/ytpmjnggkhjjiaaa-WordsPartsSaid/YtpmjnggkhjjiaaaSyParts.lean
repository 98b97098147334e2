/- Sy: the law WordsParts, walked. -/
import Derived.Test.YtpmjnggkhjjiaaaSyWords
namespace Go.Proofs.Ytpmjnggkhjjiaaa.Sy
open Go Go.RowKit Go.Proofs.YtpmjnggkhjjiaaaW.PrintWords
open Go.Proofs.Ytpmjnggkhjjiaaa.A
set_option linter.unusedVariables false
set_option linter.unusedSimpArgs false
set_option maxRecDepth 10000
set_option maxHeartbeats 8000000
theorem fold_acc : ∀ (xs : List Int) (p : List Int) (acc : List ByteArray), xs.foldl wstep (p, acc) = ((xs.foldl wstep (p, [])).1, acc ++ (xs.foldl wstep (p, [])).2)
  | [], p, acc => by simp
  | x :: xs, p, acc => by
    rw [List.foldl_cons, List.foldl_cons, wstep_eq, wstep_eq]
    by_cases h : signOf x = 0
    · rw [if_pos h, if_pos h]
      simp only [List.nil_append]
      rw [fold_acc xs [] (acc ++ flush p), fold_acc xs [] (flush p)]
      simp
    · rw [if_neg h, if_neg h]
      exact fold_acc xs _ acc
theorem words_join (x y : ByteArray) : wordsOf (x ++ (⟨#[32]⟩ : ByteArray) ++ y) = wordsOf x ++ wordsOf y := by
  have e : bytesOf (⟨#[32]⟩ : ByteArray) = [32] := rfl
  rw [wordsOf_eq, wordsOf_eq, wordsOf_eq, bytesOf_append, bytesOf_append, e]
  simp only [List.foldl_append, List.foldl_cons, List.foldl_nil]
  have h32 : signOf 32 = 0 := by decide
  have h0 : signOf 0 = 0 := by decide
  rw [wstep_eq (List.foldl wstep ([], []) (bytesOf x)) 32, wstep_eq (List.foldl wstep ([], []) (bytesOf x)) 0, if_pos h32, if_pos h0]
  rw [fold_acc (bytesOf y) [] _, wstep_eq, wstep_eq, if_pos h0, if_pos h0]
  simp
def P1 (c d : List ByteArray) (m : Nat) (s : St) : Prop := ∃ i : Nat, m = d.length - i ∧ i ≤ d.length ∧ s = ⟨140, [(18, .val (.int .i64 i)), (14, .rd 1 (strs c)), (16, .rd 1 (strs d)), (7, .val (.bool true))], [], 64⟩
def P2 (c d : List ByteArray) (m : Nat) (s : St) : Prop := ∃ i : Nat, m = c.length - i ∧ i ≤ c.length ∧ s = ⟨140, [(19, .val (.int .i64 i)), (14, .rd 1 (strs c)), (16, .rd 1 (strs d)), (7, .val (.bool true))], [], 64⟩
theorem set_rises {s : ByteArray} {i : Nat} (h0 : 0 < i) (h : i < (setOf s).length) : Op.bytesLess ((setOf s)[i - 1]'(by omega)).toList ((setOf s)[i]).toList = true := by
  have hr := onceOf_rising (wordsOf s)
  rw [List.pairwise_iff_getElem] at hr
  have := hr (i - 1) i (by rw [List.length_map]; show i - 1 < (setOf s).length; omega) (by rw [List.length_map]; exact h) (by omega)
  simp only [List.getElem_map] at this
  rw [bl_toList, bl_toList, less_lt]
  exact decide_eq_true this
theorem Parts_call {a0 : ByteArray} {l1 : List Int} {a2 : ByteArray} (h0 : a0.size ≤ 9223372036854775807) (h1 : l1.length ≤ 9223372036854775807) (hl : ∀ x ∈ l1, -9223372036854775808 ≤ x ∧ x ≤ 9223372036854775807) (h2 : a2.size ≤ 9223372036854775807) :
    CallOk Try.prog 5 [.val (.string a0), .rd 1 (rowsV (Value.int .i64) l1), .val (.string a2)] [] (.val (.bool true)) [] := by
  obtain ⟨r, hr, hrs, hrb⟩ := text_eq l1 hl 50 (by omega)
  have hrs' : r.size ≤ 440 := by
    have : (l1.take 20).length ≤ 20 := by rw [List.length_take]; omega
    omega
  refine .of_exec Try.func5 rfl (enters_5) rfl rfl (Nat.le_of_ble_eq_true rfl) (fun n _ => rfl) ?_
  simp
  refine .plain awake_call (by simp) (by simp) ?_
  obtain ⟨m, hm⟩ : ∃ m : Int, m = if 300 < (a0.size : Int) then 300 else (a0.size : Int) := ⟨_, rfl⟩
  obtain ⟨q, hq⟩ : ∃ q : Int, q = if 300 < (a2.size : Int) then 300 else (a2.size : Int) := ⟨_, rfl⟩
  have hm0 : 0 ≤ m ∧ m ≤ a0.size ∧ m ≤ 300 := by rw [hm]; split <;> omega
  have hq0 : 0 ≤ q ∧ q ≤ a2.size ∧ q ≤ 300 := by rw [hq]; split <;> omega
  have e32 : (⟨#[32]⟩ : ByteArray).size = 1 := rfl
  simp [← hm, e32]
  refine ⟨by omega, fun _ _ => ⟨by omega, fun _ => ?_⟩⟩
  refine .plain (Text_call h1 hr) (by simp) (by simp) ?_
  obtain ⟨x, hx⟩ : ∃ x, x = a0.extract 0 m.toNat ++ (⟨#[32]⟩ : ByteArray) ++ r := ⟨_, rfl⟩
  simp [← hx, ← hq, e32]
  have hxs : x.size ≤ 741 := by rw [hx]; simp [ByteArray.size_append, e32]; omega
  refine ⟨by omega, fun _ => ⟨rfl, by omega, fun _ _ => ?_⟩⟩
  obtain ⟨y, hy⟩ : ∃ y, y = a2.extract 0 q.toNat := ⟨_, rfl⟩
  have hys : y.size ≤ 300 := by rw [hy]; simp; omega
  simp only [← hy]
  refine .plain (Split_call (s := x) (by omega)) (by simp) (by simp) ?_
  simp
  refine .plain (Split_call (s := y) (by omega)) (by simp) (by simp) ?_
  simp
  obtain ⟨z, hz⟩ : ∃ z, z = x ++ (⟨#[32]⟩ : ByteArray) ++ y := ⟨_, rfl⟩
  have hzs : z.size ≤ 1042 := by rw [hz]; simp only [ByteArray.size_append, e32]; omega
  have hjoin : wordsOf z = wordsOf x ++ wordsOf y := by rw [hz, words_join]
  simp only [← hz, e32]
  refine ⟨by omega, fun _ => ⟨by omega, fun _ => ?_⟩⟩
  refine .plain (Split_call (s := z) (by omega)) (by simp) (by simp) ?_
  simp only [hz]
  simp
  simp only [← hz, e32]
  refine ⟨by omega, fun _ => ⟨by omega, fun _ => ?_⟩⟩
  have hcx := wordsOf_length x
  have hcy := wordsOf_length y
  have hcz := wordsOf_length z
  by_cases hset : (setOf z).length ≤ 12
  · refine .plain (Set_call (s := z) (set_le (by omega) hset)) (by simp) (by simp) ?_
    simp
    refine ⟨⟨by omega, by omega⟩, fun _ _ => ⟨⟨by omega, by omega⟩, fun _ _ => ?_⟩⟩
    refine .lent [608] (Texts_call (ws := wordsOf z) (by omega)) ?_ (by simp) ?_ ?_ (by simp) (by simp) ?_
    · have e1 : List.take (wordsOf x).length (strs (wordsOf x)) = strs (wordsOf x) := List.take_of_length_le (by simp)
      have e2 : strs (wordsOf x) ++ strs (wordsOf y) = strs (wordsOf z) := by rw [hjoin]; simp [rowsV]
      have e3 : List.take ((wordsOf x).length + (wordsOf y).length) (strs (wordsOf z)) = strs (wordsOf z) := List.take_of_length_le (by simp [hjoin])
      simp [e1, e2, e3]
    · simp
    · simp
      intro r hr c hc
      rcases hr with hr | hr
      · obtain ⟨w, _, rfl⟩ := List.mem_map.1 (List.mem_of_mem_take hr)
        rw [List.mem_singleton.1 hc]; trivial
      · obtain ⟨w, _, rfl⟩ := List.mem_map.1 hr
        rw [List.mem_singleton.1 hc]; trivial
    simp
    refine WPs.loopW (P1 (wordsOf z) (setOf z)) ⟨(setOf z).length, _, ?_, ⟨0, by simp, by simp, rfl⟩⟩ ?_
    · exact Wk.rn [] rfl (by simp) (by simp) (by simp)
    rintro n st ⟨i, h1, h2, rfl⟩
    by_cases hi : i < (setOf z).length
    · have hmem : (setOf z)[i] ∈ wordsOf z := (onceOf_mem _ _).1 (List.getElem_mem hi)
      simp [hi]
      refine .plain (In_yes (by omega) hmem) (by simp) (by simp) ?_
      have hfin : ∃ k s'', k < n ∧ Wk ⟨140, [(18, .val (.int .i64 (IntKind.i64.wrap ((i : Int) + 1)))), (14, .rd 1 (strs (wordsOf z))), (16, .rd 1 (strs (setOf z))), (7, .val (.bool true))], [], 64⟩ s'' ∧ P1 (wordsOf z) (setOf z) k s'' := by
        refine ⟨(setOf z).length - (i + 1), _, by omega, ?_, ⟨i + 1, rfl, hi, rfl⟩⟩
        rw [w64 (by omega) (by omega)]
        exact Wk.refl _
      obtain ⟨k, s'', g1, g2, g3⟩ := hfin
      by_cases hpos : 0 < i
      · have hw : IntKind.i64.wrap ((i : Int) - 1) = ((i - 1 : Nat) : Int) := by rw [w64 (by omega) (by omega)]; omega
        have hi1 : i - 1 < (setOf z).length := by omega
        have hri := set_rises hpos hi
        simp [hi, hpos, hw, hi1, hri]
        refine ⟨rfl, k, g1, s'', Wk.trans ?_ g2, g3⟩
        exact Wk.rn [] rfl (by simp) (by simp) (by simp)
      · simp [hi, hpos]
        refine ⟨rfl, k, g1, s'', Wk.trans ?_ g2, g3⟩
        exact Wk.rn [] rfl (by simp) (by simp) (by simp)
    · simp [hi]
      refine WPs.loopW (P2 (wordsOf z) (setOf z)) ⟨(wordsOf z).length, _, ?_, ⟨0, by simp, by simp, rfl⟩⟩ ?_
      · exact Wk.rn [] rfl (by simp) (by simp) (by simp)
      clear hi h1 h2 i n
      rintro n st ⟨i, h1, h2, rfl⟩
      by_cases hi : i < (wordsOf z).length
      · have hmem : (wordsOf z)[i] ∈ setOf z := (onceOf_mem _ _).2 (List.getElem_mem hi)
        simp [hi]
        refine .plain (In_yes (by omega) hmem) (by simp) (by simp) ?_
        simp [hi]
        refine ⟨(wordsOf z).length - (i + 1), by omega, _, ?_, ⟨i + 1, rfl, hi, rfl⟩⟩
        rw [w64 (by omega) (by omega)]
        exact Wk.rn [] rfl (by simp) (by simp) (by simp)
      · simp [hi]
        exact .plain (by simp) (by simp)
  · have hf : words_Set.f z = some ([], 2) := by
      unfold words_Set.f
      rw [if_neg (by omega), if_pos (by omega)]
    refine .plain (Set_call (s := z) hf) (by simp) (by simp) ?_
    simp
    refine ⟨⟨by omega, by omega⟩, fun _ _ => ⟨⟨by omega, by omega⟩, fun _ _ => ?_⟩⟩
    refine .lent [608] (Texts_call (ws := wordsOf z) (by omega)) ?_ (by simp) ?_ ?_ (by simp) (by simp) ?_
    · have e1 : List.take (wordsOf x).length (strs (wordsOf x)) = strs (wordsOf x) := List.take_of_length_le (by simp)
      have e2 : strs (wordsOf x) ++ strs (wordsOf y) = strs (wordsOf z) := by rw [hjoin]; simp [rowsV]
      have e3 : List.take ((wordsOf x).length + (wordsOf y).length) (strs (wordsOf z)) = strs (wordsOf z) := List.take_of_length_le (by simp [hjoin])
      simp [e1, e2, e3]
    · simp
    · simp
      intro r hr c hc
      rcases hr with hr | hr
      · obtain ⟨w, _, rfl⟩ := List.mem_map.1 (List.mem_of_mem_take hr)
        rw [List.mem_singleton.1 hc]; trivial
      · obtain ⟨w, _, rfl⟩ := List.mem_map.1 hr
        rw [List.mem_singleton.1 hc]; trivial
    have hbig : 12 < (wordsOf z).length := by
      have := onceOf_length_le (l := wordsOf z) (m := wordsOf z) (fun w h => h)
      have h2 : (onceOf (wordsOf z)).length = (setOf z).length := rfl
      omega
    have hbigI : (12 : Int) < ((wordsOf z).length : Int) := by omega
    simp [hbigI]
    exact .plain (by simp) (by simp)
end Go.Proofs.Ytpmjnggkhjjiaaa.Sy
