/- The words of a set, in whatever order, and however often, have the same set; two texts' set has both sets': for every list of raw numbers and every raw place. No condition. -/
import Derived.Test.YtpmjnggkhjjiaaaWordsText
import Derived.Test.YtpmjnggkhjjiaaaAx14
import Derived.OpenShut
namespace Go.Proofs.Ytpmjnggkhjjiaaa.Pure
open Go.RowKit Go.Proofs.Ytpmjnggkhjjiaaa.A Go.Proofs.YtpmjnggkhjjiaaaW.PrintWords Go.Proofs.YtpmjnggkhjjiaaaW.PrintLast Go.Proofs.YtpmjnggkhjjiaaaW.PrintMore
set_option linter.unusedVariables false
set_option linter.unusedSimpArgs false

theorem sets_loop (a c d : List ByteArray) (ha : a.length ≤ 9) (hc : c.length ≤ 9) (hd : d.length ≤ 9) (h : ∀ w ∈ a, w ∈ c ∨ w ∈ d) (h1 : a.length ≤ c.length + d.length) (h2 : c.length ≤ a.length) (h3 : d.length ≤ a.length) :
    ∀ (n : Nat) (i : Int) (k : Nat), 0 ≤ i → (a.length : Int) - i = n → n + 4200 ≤ k → columbariumlaw16_WordsSets.l0 k true a c d i = some true
  | 0, i, k, h0, hn, hk => by
    obtain ⟨k, rfl⟩ : ∃ m, k = m + 1 := ⟨k - 1, by omega⟩
    unfold columbariumlaw16_WordsSets.l0
    rw [if_neg (by omega), if_pos rfl, wrap64_id (by omega) (by omega), if_pos (by omega)]
    refine congrArg some (decide_eq_true ?_)
    unfold mx
    split <;> omega
  | n + 1, i, k, h0, hn, hk => by
    obtain ⟨k, rfl⟩ : ∃ m, k = m + 1 := ⟨k - 1, by omega⟩
    have hm := rdOf_mem (l := a) h0 (by omega)
    have ih := sets_loop a c d ha hc hd h h1 h2 h3 n (i + 1) k (by omega) (by omega) (by omega)
    unfold columbariumlaw16_WordsSets.l0
    rw [if_pos (by omega), if_pos h0, in_eq c _ k (by omega) (by omega), wrap64_id (by omega) (by omega)]
    simp only [Option.bind_some]
    by_cases hcm : rdOf ByteArray.empty a i ∈ c
    · rw [if_pos (by simpa using hcm)]; exact ih
    · rw [if_neg (by simpa using hcm), in_eq d _ k (by omega) (by omega)]
      simp only [Option.bind_some]
      rw [if_pos (by simpa using (h _ hm).resolve_left hcm)]; exact ih

theorem WordsSets : ∀ (l0 : List Int) (a1 : Int), (l0.length ≤ maxLen ∧ ∀ a ∈ l0, (Lit.int .i64 a).wf = true) → (Lit.int .i64 a1).wf = true → ∃ k, columbariumlaw16_WordsSets.f k l0 a1 = some true := by
  intro l0 a1 w0 w1
  obtain ⟨K, hK⟩ : ∃ K, K = 6000 := ⟨_, rfl⟩
  refine ⟨K, ?_⟩
  have hb : ∀ x ∈ l0, -9223372036854775808 ≤ x ∧ x ≤ 9223372036854775807 := fun x hx => bounds_i64 (w0.2 x hx)
  have m0 := mn_le l0.length 12 (by omega)
  obtain ⟨m, hm⟩ : ∃ m, mn (l0.length : Int) 12 = m := ⟨_, rfl⟩
  rw [hm] at m0
  have hmx : max m 0 = m := by omega
  have hp := pk_range a1 (m + 1) (by omega)
  obtain ⟨p, hpe⟩ : ∃ p, pk a1 (m + 1) = p := ⟨_, rfl⟩
  rw [hpe] at hp
  obtain ⟨x, hx⟩ : ∃ x, l0.take m.toNat = x := ⟨_, rfl⟩
  have hxl : x.length = m.toNat := by rw [← hx, List.length_take]; omega
  have hxb : ∀ y ∈ x, -9223372036854775808 ≤ y ∧ y ≤ 9223372036854775807 := fun y hy => hb y (by rw [← hx] at hy; exact List.mem_of_mem_take hy)
  obtain ⟨t, ht, ht1, ht2⟩ := text_eq x hxb K (by omega)
  obtain ⟨u, hu, hu1, hu2⟩ := text_eq (x.drop p.toNat) (fun y hy => hxb y (List.mem_of_mem_drop hy)) K (by omega)
  obtain ⟨v, hv, hv1, hv2⟩ := text_eq (x.take p.toNat) (fun y hy => hxb y (List.mem_of_mem_take hy)) K (by omega)
  rw [List.take_of_length_le (by omega)] at ht1 ht2
  rw [List.take_of_length_le (by rw [List.length_drop]; omega)] at hu1 hu2
  rw [List.take_of_length_le (by rw [List.length_take]; omega)] at hv1 hv2
  have eu : (x.drop p.toNat).length ≤ 12 := by rw [List.length_drop]; omega
  have ev : (x.take p.toNat).length ≤ 12 := by rw [List.length_take]; omega
  have s3 : (u ++ v ++ u).size ≤ 2000 := by rw [ByteArray.size_append, ByteArray.size_append]; omega
  have wt := words_items ht2
  have wu := words_items hu2
  have wv := words_items hv2
  have w3 : wordsOf (u ++ v ++ u) = (x.drop p.toNat ++ x.take p.toNat ++ x.drop p.toNat).map wordAt := words_items (by rw [bytesOf_append, bytesOf_append, hu2, hv2, List.flatMap_append, List.flatMap_append])
  have hnine : ∀ (z : List Int), ∀ w ∈ z.map wordAt, w ∈ nine := fun z w hw => by
    obtain ⟨y, _, rfl⟩ := List.mem_map.1 hw; exact wordAt_mem y
  have nt : (setOf t).length ≤ 9 := setOf_nine (by rw [wt]; exact hnine x)
  have nu : (setOf u).length ≤ 9 := setOf_nine (by rw [wu]; exact hnine _)
  have nv : (setOf v).length ≤ 9 := setOf_nine (by rw [wv]; exact hnine _)
  have hmemx : ∀ y, y ∈ x ↔ y ∈ x.take p.toNat ∨ y ∈ x.drop p.toNat := fun y => by
    rw [← List.mem_append, List.take_append_drop]
  have hsame : setOf (u ++ v ++ u) = setOf t := by
    unfold setOf
    refine onceOf_same fun w => ?_
    rw [w3, wt]
    simp only [List.mem_map, List.mem_append]
    constructor
    · rintro ⟨y, hy, rfl⟩; exact ⟨y, (hmemx y).2 (by rcases hy with (h | h) | h <;> simp [h]), rfl⟩
    · rintro ⟨y, hy, rfl⟩; exact ⟨y, by rcases (hmemx y).1 hy with h | h <;> simp [h], rfl⟩
  have hmem : ∀ w ∈ setOf t, w ∈ setOf v ∨ w ∈ setOf u := fun w hw => by
    unfold setOf at hw ⊢
    rw [onceOf_mem, wt] at hw
    rw [onceOf_mem, onceOf_mem, wv, wu]
    obtain ⟨y, hy, rfl⟩ := List.mem_map.1 hw
    rcases (hmemx y).1 hy with h | h
    · exact .inl (List.mem_map_of_mem h)
    · exact .inr (List.mem_map_of_mem h)
  have l1 : (setOf t).length ≤ (setOf v).length + (setOf u).length := by
    rw [← List.length_append]
    refine onceOf_length_le (m := setOf v ++ setOf u) fun w hw => ?_
    exact List.mem_append.2 (hmem w ((onceOf_mem _ w).2 hw))
  have l2 : (setOf v).length ≤ (setOf t).length := onceOf_length_le (m := setOf t) fun w hw => by
    unfold setOf; rw [onceOf_mem, wt]; rw [wv] at hw
    obtain ⟨y, hy, rfl⟩ := List.mem_map.1 hw
    exact List.mem_map_of_mem ((hmemx y).2 (.inl hy))
  have l3 : (setOf u).length ≤ (setOf t).length := onceOf_length_le (m := setOf t) fun w hw => by
    unfold setOf; rw [onceOf_mem, wt]; rw [wu] at hw
    obtain ⟨y, hy, rfl⟩ := List.mem_map.1 hw
    exact List.mem_map_of_mem ((hmemx y).2 (.inr hy))
  unfold columbariumlaw16_WordsSets.f
  rw [awake_ok K (by omega)]
  simp only [Option.bind_some]
  rw [hm, hmx, if_pos m0.1, if_pos m0.2.1, pick_eq a1 (m + 1) (bounds_i64 w1) (by omega), hpe, hx]
  simp only [Option.bind_some]
  rw [ht]
  simp only [Option.bind_some]
  rw [set_le (by omega) (by omega)]
  simp only [Option.bind_some]
  rw [if_pos hp.1, if_pos (by omega), hu]
  simp only [Option.bind_some]
  rw [hv]
  simp only [Option.bind_some]
  rw [if_pos (by omega), if_pos (by omega), set_le s3 (by rw [hsame]; omega), hsame]
  simp only [Option.bind_some]
  rw [set_le (by omega) (by omega)]
  simp only [Option.bind_some]
  rw [set_le (by omega) (by omega)]
  simp only [Option.bind_some, if_true]
  rw [texts_same _ K (by omega) (by omega)]
  simp only [Option.bind_some, if_true]
  exact sets_loop _ _ _ nt nv nu hmem l1 l2 l3 (setOf t).length 0 K (by omega) (by omega) (by omega)
end Go.Proofs.Ytpmjnggkhjjiaaa.Pure
