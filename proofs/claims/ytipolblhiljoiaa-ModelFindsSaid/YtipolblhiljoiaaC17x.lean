/- Layer 17: documents that may be stay so. -/
import Derived.Test.YtipolblhiljoiaaC17w
namespace Go.Proofs.Ytipolblhiljoiaa.Sy
open Go Go.RowKit
set_option linter.unusedVariables false
set_option linter.unusedSimpArgs false
theorem docOk_facts {d : DocW} (h : docOk d = true) : 0 ≤ d.id ∧ d.id ≤ 1073741824 ∧ d.ws.length ≤ 12 ∧ adjB ltW d.ws = true ∧ ∀ w ∈ d.ws, mayOf w = true := by
  unfold docOk at h
  simp only [Bool.and_eq_true, decide_eq_true_eq, List.all_eq_true] at h
  exact ⟨h.1.1.1.1, h.1.1.1.2, h.1.1.2, h.1.2, h.2⟩
theorem docOk_mk {d : DocW} (h1 : 0 ≤ d.id) (h2 : d.id ≤ 1073741824) (h3 : d.ws.length ≤ 12) (h4 : adjB ltW d.ws = true) (h5 : ∀ w ∈ d.ws, mayOf w = true) : docOk d = true := by
  unfold docOk
  simp only [Bool.and_eq_true, decide_eq_true_eq, List.all_eq_true]
  exact ⟨⟨⟨⟨h1, h2⟩, h3⟩, h4⟩, h5⟩
theorem may_size {w : ByteArray} (h : mayOf w = true) : w.size ≤ 20 := by
  unfold mayOf at h
  simp only [Bool.and_eq_true, decide_eq_true_eq] at h
  have := h.2.2
  omega
theorem right_in {l : List DocW} (h : rightD l = true) : DocsIn l := by
  obtain ⟨h1, h2⟩ := right_facts17 h
  refine ⟨by omega, fun d hd => ?_⟩
  obtain ⟨a, b, c, _, e⟩ := docOk_facts (h2 d hd)
  refine ⟨by unfold isI64; omega, by omega, fun w hw => ?_⟩
  have := may_size (e w hw)
  unfold maxLen; omega
theorem set_ok (s : ByteArray) : (setV s).1.length ≤ 12 ∧ adjB ltW (setV s).1 = true ∧ ∀ w ∈ (setV s).1, mayOf w = true := by
  have h : ∀ ws, ws = [] ∨ ws = setOf s → adjB ltW ws = true ∧ ∀ w ∈ ws, mayOf w = true := by
    rintro ws (rfl | rfl)
    · exact ⟨rfl, fun w hw => by cases hw⟩
    · exact ⟨(adjW_iff _).2 (onceOf_rising _), fun w hw => may_good (wordsOf_good s w ((onceOf_mem _ _).1 hw))⟩
  refine ⟨setV_size s, h _ ?_⟩
  unfold setV
  split
  · exact .inl rfl
  · split
    · exact .inl rfl
    · exact .inr rfl
theorem sort_ins {l : List DocW} {id : Int} {ws : List ByteArray} (hs : sortD l) (hn : hasD l id = false) : sortD (insD l ⟨id, ws⟩) := by
  obtain ⟨h1, h2⟩ := pos_facts (id := id) hs
  have hne := has_false hn
  unfold insD sortD
  rw [List.append_assoc, List.pairwise_append]
  refine ⟨List.Pairwise.sublist (List.take_sublist _ _) hs, ?_, ?_⟩
  · rw [List.singleton_append, List.pairwise_cons]
    refine ⟨fun d hd => ?_, List.Pairwise.sublist (List.drop_sublist _ _) hs⟩
    have a := h2 d hd
    have b := hne d (List.mem_of_mem_drop hd)
    show id < d.id
    omega
  · intro a ha b hb
    rw [List.singleton_append, List.mem_cons] at hb
    have h3 := h1 a ha
    rcases hb with rfl | hb
    · exact h3
    · have := h2 b hb
      omega
theorem rep_ids (l : List DocW) (id : Int) (ws : List ByteArray) : (repD l id ws).map (·.id) = l.map (·.id) := by
  unfold repD
  rw [List.map_map]
  apply List.map_congr_left
  intro d _
  simp only [Function.comp]
  split <;> rfl
theorem sort_ids (l : List DocW) : sortD l ↔ (l.map (·.id)).Pairwise (· < ·) := by unfold sortD; rw [List.pairwise_map]
theorem sort_rep {l : List DocW} {id : Int} {ws : List ByteArray} (hs : sortD l) : sortD (repD l id ws) := by
  rw [sort_ids, rep_ids, ← sort_ids]; exact hs
theorem do_right {l : List DocW} (h : rightD l = true) (k id : Int) (s : ByteArray) : rightD (doM l k id s).1 = true := by
  unfold doM
  split
  · rename_i hg
    obtain ⟨g1, g2, g3, g4⟩ := goes_facts hg
    obtain ⟨r1, r2⟩ := right_facts17 h
    have hs := right_sort h
    obtain ⟨s1, s2, s3⟩ := set_ok s
    by_cases k6 : k = 6
    · rw [if_pos k6]; exact h
    rw [if_neg k6]
    by_cases k2 : k = 2
    · rw [if_pos k2]
      split
      · exact right_mk (Nat.le_trans (List.length_filter_le _ _) r1) (fun d hd => r2 d ((List.mem_filter.1 hd).1)) (sort_del hs id)
      · exact h
    rw [if_neg k2]
    split
    · exact h
    by_cases k1 : k = 1
    · rw [if_pos k1]
      split
      · exact h
      · rename_i hn
        have hn' : hasD l id = false := by simpa using hn
        split
        · exact h
        · rename_i hl
          have hp := posD_le l id
          refine right_mk (by simp [insD]; omega) (fun d hd => ?_) (sort_ins hs hn')
          simp only [insD, List.mem_append, List.mem_singleton] at hd
          rcases hd with (hd | rfl) | hd
          · exact r2 d (List.mem_of_mem_take hd)
          · exact docOk_mk (by show 0 ≤ id; omega) (by show id ≤ 1073741824; omega) s1 s2 s3
          · exact r2 d (List.mem_of_mem_drop hd)
    rw [if_neg k1]
    by_cases k3 : k = 3
    · rw [if_pos k3]
      split
      · refine right_mk (by simp [repD]; omega) (fun d hd => ?_) (sort_rep hs)
        simp only [repD, List.mem_map] at hd
        obtain ⟨d0, hd0, rfl⟩ := hd
        split
        · obtain ⟨a, b, _⟩ := docOk_facts (r2 d0 hd0)
          exact docOk_mk a b s1 s2 s3
        · exact r2 d0 hd0
      · exact h
    rw [if_neg k3]
    split
    · split <;> exact h
    · split <;> exact h
  · exact h
end Go.Proofs.Ytipolblhiljoiaa.Sy
