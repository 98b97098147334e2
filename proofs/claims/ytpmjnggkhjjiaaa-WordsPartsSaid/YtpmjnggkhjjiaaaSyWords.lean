/- Sy: what the words' functions come to, as contracts. -/
import Derived.Test.YtpmjnggkhjjiaaaSyKit
import Derived.Test.YtpmjnggkhjjiaaaSyTab
import Derived.Test.YtpmjnggkhjjiaaaWordsText
import Derived.Test.YtpmjnggkhjjiaaaWordsSet
namespace Go.Proofs.Ytpmjnggkhjjiaaa.Sy
open Go Go.RowKit Go.Proofs.YtpmjnggkhjjiaaaW.PrintWords
open Go.Proofs.Ytpmjnggkhjjiaaa.A
set_option linter.unusedVariables false
set_option linter.unusedSimpArgs false
abbrev strs (l : List ByteArray) : List (List PV) := rowsV Value.string l
theorem w64 {n : Int} (h0 : -9223372036854775808 ≤ n) (h : n < 9223372036854775808) : IntKind.i64.wrap n = n := by
  rw [IntKind.wrap_i64]; omega
theorem reL1 {C : Cx} {p : PV} {vs : List Value} (h : ReL C [p] vs) : ∃ v, vs = [v] ∧ Re C p v := by
  obtain ⟨hl, hh⟩ := h
  cases vs with
  | nil => simp at hl
  | cons v vs =>
    cases vs with
    | nil => exact ⟨v, rfl, hh 0 (by simp) (by simp)⟩
    | cons _ _ => simp at hl
theorem reL0 {C : Cx} {vs : List Value} (h : ReL C [] vs) : vs = [] := List.eq_nil_of_length_eq_zero h.1.symm
theorem awake_call : CallOk Try.prog 8 [] [] (.val (.bool true)) [] :=
  .of_val enters_8 fun C vs h => by
    rw [reL0 h]
    exact columbariumlaw16_awake.calls 5000 true C.W (awake_ok 5000 (by omega))
theorem Text_call {l : List Int} {r : ByteArray} {k : Nat} (hm : l.length ≤ 9223372036854775807) (h : columbariumlaw16_Text.f k l = some r) : CallOk Try.prog 9 [.rd 1 (rowsV (Value.int .i64) l)] [] (.val (.string r)) [] :=
  .of_val enters_9 fun C vs hv => by
    obtain ⟨v, rfl, hv'⟩ := reL1 hv
    obtain ⟨A, cap, rfl, hc, hr⟩ := reads_of_re hv' hm
    exact columbariumlaw16_Text.calls k A cap l r C.W hr hc h
theorem row_of_own {w w' : World} {v : Value} {xs : List ByteArray} (ho : w'.ownsRow w.heap.size 9 1 v xs.length (xs.map Value.string)) (hb : Below w.heap.size w w') : ∃ A cap, v = .slice A xs.length cap ∧ xs.length ≤ cap ∧
    ReadsRow (fun x cs => cs = [Value.string x]) 1 w' A xs.length xs ∧ (∀ ad, A = some ad → 0 < xs.length → w.heap.size ≤ ad.block) := by
  rcases ho.2 with ⟨rfl, h0⟩ | ⟨g, cap, cur, rfl, q1, q2, q3, q4, q5, q6⟩
  · have : xs = [] := List.eq_nil_of_length_eq_zero h0
    subst this
    exact ⟨none, 0, rfl, Nat.le_refl _, ⟨rfl, by simp, fun h => by simp at h⟩, fun ad h => by cases h⟩
  · refine ⟨_, cap, rfl, q3, ⟨rfl, Nat.le_trans q3 q4, fun _ => ⟨_, rfl, fun j p hj => ⟨[.string p], rfl, rfl, fun i u hu => ?_⟩⟩⟩, fun ad h _ => by cases h; exact q1⟩
    cases i with
    | succ i => simp at hu
    | zero =>
      simp only [List.getElem?_cons_zero, Option.some.injEq] at hu
      subst hu
      have hjl : j < xs.length := (List.getElem?_eq_some_iff.1 hj).1
      have h6 : cur[j]? = some (.string p) := by
        have : (cur.toList.take (xs.length * 1))[j]? = some (.string p) := by rw [q6, List.getElem?_map, hj]; rfl
        rw [List.getElem?_take_of_lt (by omega), Array.getElem?_toList] at this
        exact this
      simp only [Nat.mul_one, Nat.add_zero, add_plain, Nat.zero_add]
      unfold World.cell?
      rw [q2]
      simpa using h6
theorem Split_call {s : ByteArray} (h : s.size ≤ 2000) : CallOk Try.prog 11 [.val (.string s)] [] (.tup [.rd 1 (strs (wordsOf s)), .val (.int .i64 0)]) [] :=
  .of_row (g := Value.string) (fun _ => rfl) enters_11 fun C vs hv => by
    obtain ⟨v, rfl, hv'⟩ := reL1 hv
    cases hv'
    clear hv
    refine (words_Split.own s _ _ C.W (split_le h)).mono ?_
    rintro e W' ⟨v, he, ho, hb⟩
    obtain ⟨A, cap, rfl, h1, h2, h3⟩ := row_of_own ho hb
    exact ⟨A, cap, he, h1, h2, h3, hb⟩
theorem fresh_of_F {w : World} {base : Nat} {A : Option Addr} {n : Nat} {xs : List ByteArray} (h : Kd.F Kd.string w (fun k => base ≤ k) A n xs) : ∀ ad, A = some ad → 0 < n → base ≤ ad.block := by
  intro ad hA h0
  by_cases hb : base ≤ ad.block
  · exact hb
  · exfalso
    obtain ⟨w2, hw2⟩ : ∃ w2 : World, w2 = w.putObj ad.block (.deferred none) := ⟨_, rfl⟩
    have hC : Kd.C Kd.string w2 A n xs := h w2 (fun k hk _ => by rw [hw2]; exact World.putObj_heap_other (by omega))
    obtain ⟨hl, _, hr⟩ := hC
    obtain ⟨ad', e1, hc⟩ := hr h0
    rw [hA] at e1; cases e1
    obtain ⟨c, c1, c2, c3⟩ := hc 0 xs[0] (List.getElem?_eq_getElem (by omega))
    have h3 := c3 0 (.string xs[0]) (by rw [c2]; rfl)
    simp only [Nat.zero_mul, Nat.add_zero] at h3
    rw [show ad.add 0 = ad from rfl] at h3
    unfold World.cell? at h3
    have hlt : ad.block < w2.heap.size := by
      cases hx : w2.heap[ad.block]? with
      | none => rw [hx] at h3; cases h3
      | some _ => exact (Array.getElem?_eq_some_iff.1 hx).1
    have hself : w2.heap[ad.block]? = some (.deferred none) := by
      rw [hw2] at hlt ⊢
      exact World.putObj_heap_same (by simpa using hlt)
    rw [hself] at h3; cases h3
theorem Set_call {s : ByteArray} {r1 : List ByteArray} {r2 : Int} (h : words_Set.f s = some (r1, r2)) : CallOk Try.prog 13 [.val (.string s)] [] (.tup [.rd 1 (strs r1), .val (.int .i64 r2)]) [] :=
  .of_row (g := Value.string) (fun _ => rfl) enters_13 fun C vs hv => by
    obtain ⟨v, rfl, hv'⟩ := reL1 hv
    cases hv'
    clear hv
    refine (words_Set.calls s _ _ C.W h).mono ?_
    rintro e W' ⟨v, he, ⟨A, c, rfl, hc, hF⟩, hb⟩
    exact ⟨A, c, he, hc, hF W' (fun _ _ _ => rfl), fresh_of_F hF, hb⟩
def In_inv (ws : List ByteArray) (x : ByteArray) (m : Nat) (s : St) : Prop :=
  ∃ i : Nat, m = ws.length - i ∧ i ≤ ws.length ∧ x ∉ ws.take i ∧ s = ⟨18, [(5, .val (.int .i64 i)), (0, .rd 1 (strs ws)), (1, .val (.string x))], [], 64⟩
open Classical in
theorem In_call {ws : List ByteArray} {s : ByteArray} (hl : ws.length < 9223372036854775807) : CallOk Try.prog 21 [.rd 1 (strs ws), .val (.string s)] [] (.val (.bool (decide (s ∈ ws)))) [] := by
  refine .of_exec Try.func21 rfl (enters_21) rfl rfl (Nat.le_of_ble_eq_true rfl) (fun n _ => rfl) ?_
  simp
  refine WPs.loopW (In_inv ws s) ⟨ws.length, _, ?_, ⟨0, by simp, by simp, by simp, rfl⟩⟩ ?_
  · exact Wk.rn [] rfl (by simp) (by simp) (by simp)
  · rintro m st ⟨i, h1, h2, h3, rfl⟩
    simp +contextual
    refine ⟨fun hi => ?_, fun hi => ?_⟩
    intros
    refine ⟨fun he => ?_, fun hne => ?_⟩
    · exact .plain (by simp) (by simp [← he])
    · refine ⟨ws.length - (i + 1), by omega, _, ?_, ⟨i + 1, rfl, hi, ?_, rfl⟩⟩
      · rw [w64 (by omega) (by omega)]
        exact Wk.rn [] rfl (by simp) (by simp) (by simp)
      · rw [List.take_succ_eq_append_getElem hi]
        rw [List.mem_append, not_or]
        exact ⟨h3, by simpa using Ne.symm hne⟩
    · exact .plain (by simp) (by rw [List.take_of_length_le hi] at h3; simp [h3])
theorem In_yes {ws : List ByteArray} {s : ByteArray} (hl : ws.length < 9223372036854775807) (h : s ∈ ws) : CallOk Try.prog 21 [.rd 1 (strs ws), .val (.string s)] [] (.val (.bool true)) [] := by
  have := In_call (ws := ws) (s := s) hl
  simpa [h] using this
def Texts_inv (ws : List ByteArray) (m : Nat) (s : St) : Prop :=
  ∃ i : Nat, m = ws.length - i ∧ i ≤ ws.length ∧ s = ⟨26, [(5, .val (.int .i64 i)), (0, .rd 1 (strs ws)), (1, .rd 1 (strs ws))], [], 64⟩
/-- The same texts are the same. -/
theorem Texts_call {ws : List ByteArray} (hl : ws.length < 9223372036854775807) : CallOk Try.prog 15 [.rd 1 (strs ws), .rd 1 (strs ws)] [] (.val (.bool true)) [] := by
  refine .of_exec Try.func15 rfl (enters_15) rfl rfl (Nat.le_of_ble_eq_true rfl) (fun n _ => rfl) ?_
  simp
  refine WPs.loopW (Texts_inv ws) ⟨ws.length, _, ?_, ⟨0, by simp, by simp, rfl⟩⟩ ?_
  · exact Wk.rn [] rfl (by simp) (by simp) (by simp)
  · rintro m st ⟨i, h1, h2, rfl⟩
    simp +contextual
    refine ⟨fun hi => ?_, fun hi => .plain (by simp) (by simp)⟩
    intros
    refine ⟨rfl, ws.length - (i + 1), by omega, _, ?_, ⟨i + 1, rfl, hi, rfl⟩⟩
    rw [w64 (by omega) (by omega)]
    exact Wk.rn [] rfl (by simp) (by simp) (by simp)
end Go.Proofs.Ytpmjnggkhjjiaaa.Sy
