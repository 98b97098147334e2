/- Layer 12: what put, get and del come to, by what is in a store. -/
import Derived.Test.YthijmjglpcljcaaB12u
import Derived.Test.YthijmjglpcljcaaB12x
namespace Go.Proofs.Ythijmjglpcljcaa.Sy
open Go Go.RowKit
set_option linter.unusedVariables false
set_option linter.unusedSimpArgs false
theorem in_unique {s : Sto} (h : RightI s) {l c c' : ByteArray} (h1 : inB s.bs l c) (h2 : inB s.bs l c') : c = c' := by
  obtain ⟨j, j1, j2, j3, j4⟩ := h1
  obtain ⟨k, k1, k2, k3, k4⟩ := h2
  obtain rfl := h.dist j k j1 k1 j2 k2 (j3.trans k3.symm)
  rw [← j4, k4]
theorem find_in {s : Sto} (h : RightI s) {l c : ByteArray} (h1 : inB s.bs l c) : ∃ k : Nat, k < s.bs.length ∧ (findB s.bs l).1 = k ∧ (atB s.bs k).st = 1 ∧ (atB s.bs k).lab = l ∧ (atB s.bs k).cell = c := by
  obtain ⟨j, j1, j2, j3, j4⟩ := h1
  have := find_of h.path h.dist j1 j2
  rw [j3] at this
  exact ⟨j, j1, this, j2, j3, j4⟩
theorem find_not {s : Sto} (h : RightI s) {l : ByteArray} (h1 : ∀ c, ¬ inB s.bs l c) : (findB s.bs l).1 = -1 := by
  rcases find_mem h.path h.dist l (size_pos h.size) with ⟨g, _⟩ | ⟨k, g1, g2, g3, g4⟩
  · exact g
  · exact absurd ⟨k, g1, g3, g4, rfl⟩ (h1 _)
theorem in_dec (s : Sto) (l : ByteArray) : (∃ c, inB s.bs l c) ∨ ∀ c, ¬ inB s.bs l c := by
  by_cases h : ∃ c, inB s.bs l c
  · exact .inl h
  · exact .inr fun c hc => h ⟨c, hc⟩
theorem get_in {s : Sto} (h : RightI s) {l c : ByteArray} (h1 : inB s.bs l c) : getS s l = (c, true) := by
  obtain ⟨k, k1, k2, k3, k4, k5⟩ := find_in h h1
  unfold getS
  rw [if_pos ((right_iff s).2 h), k2, if_neg (by omega)]
  simp only [Int.toNat_natCast, k5]
theorem get_not {s : Sto} (h : RightI s) {l : ByteArray} (h1 : ∀ c, ¬ inB s.bs l c) : getS s l = (⟨#[]⟩, false) := by
  unfold getS
  rw [if_pos ((right_iff s).2 h), if_pos (find_not h h1)]
theorem del_in {s : Sto} (h : RightI s) {l c : ByteArray} (h1 : inB s.bs l c) : ∃ s', delS s l = (s', true, 0) ∧ RightI s' ∧ s'.many = s.many - 1 ∧ s'.gone = s.gone + 1 ∧ s'.bs.length = s.bs.length ∧ ∀ l' c', inB s'.bs l' c' ↔ l' ≠ l ∧ inB s.bs l' c' := by
  obtain ⟨k, k1, k2, k3, k4, k5⟩ := find_in h h1
  refine ⟨⟨s.bs.set k ⟨2, ⟨#[]⟩, ⟨#[]⟩⟩, s.many - 1, s.gone + 1⟩, ?_, del_right h k1 k3, rfl, rfl, by simp, fun l' c' => ?_⟩
  · unfold delS
    rw [if_pos ((right_iff s).2 h), k2, if_neg (by omega)]
    rfl
  · unfold inB
    simp only [List.length_set]
    constructor
    · rintro ⟨j, j1, j2⟩
      rw [atB_set k1] at j2
      by_cases e : k = j
      · rw [if_pos e] at j2; simp at j2
      · rw [if_neg e] at j2
        exact ⟨fun e' => e (h.dist k j k1 j1 k3 j2.1 (by rw [k4, j2.2.1, e'])), j, j1, j2⟩
    · rintro ⟨hne, j, j1, j2⟩
      refine ⟨j, j1, ?_⟩
      rw [atB_set k1, if_neg (fun e => by subst e; exact hne (j2.2.1.symm.trans k4))]
      exact j2
theorem del_not {s : Sto} (h : RightI s) {l : ByteArray} (h1 : ∀ c, ¬ inB s.bs l c) : delS s l = (s, false, 0) := by
  unfold delS
  rw [if_pos ((right_iff s).2 h), if_pos (find_not h h1)]
theorem put_ok {s : Sto} (h : RightI s) {l c : ByteArray} (hl : l.size = 16) (hc : c.size = 40) : (rightB s && decide ((l.size : Int) = 16) && decide ((c.size : Int) = 40)) = true := by
  rw [(right_iff s).2 h, hl, hc]; rfl
theorem put_over {s : Sto} (h : RightI s) {l c c0 : ByteArray} (hl : l.size = 16) (hc : c.size = 40) (h1 : inB s.bs l c0) : ∃ k : Nat, k < s.bs.length ∧ (atB s.bs k).st = 1 ∧ (atB s.bs k).lab = l ∧ (atB s.bs k).cell = c0 ∧ putS s l c = (⟨s.bs.set k { atB s.bs k with cell := c }, s.many, s.gone⟩, 0) ∧
    RightI (putS s l c).1 ∧ ∀ l' c', inB (putS s l c).1.bs l' c' ↔ (l' = l ∧ c' = c) ∨ (l' ≠ l ∧ inB s.bs l' c') := by
  obtain ⟨k, k1, k2, k3, k4, k5⟩ := find_in h h1
  have he : putS s l c = (⟨s.bs.set k { atB s.bs k with cell := c }, s.many, s.gone⟩, 0) := by
    unfold putS
    rw [if_pos (put_ok h hl hc), k2, if_neg (by omega)]
    rfl
  refine ⟨k, k1, k3, k4, k5, he, put_right h hl hc, fun l' c' => ?_⟩
  rw [he]
  unfold inB
  simp only [List.length_set]
  constructor
  · rintro ⟨j, j1, j2⟩
    rw [atB_set k1] at j2
    by_cases e : k = j
    · rw [if_pos e] at j2
      exact .inl ⟨j2.2.1.symm.trans k4, j2.2.2.symm⟩
    · rw [if_neg e] at j2
      exact .inr ⟨fun e' => e (h.dist k j k1 j1 k3 j2.1 (by rw [k4, j2.2.1, e'])), j, j1, j2⟩
  · rintro (⟨rfl, rfl⟩ | ⟨hne, j, j1, j2⟩)
    · exact ⟨k, k1, by rw [atB_set k1, if_pos rfl]; exact ⟨k3, k4, rfl⟩⟩
    · refine ⟨j, j1, ?_⟩
      rw [atB_set k1, if_neg (fun e => by subst e; exact hne (j2.2.1.symm.trans k4))]
      exact j2
theorem put_new {s : Sto} (h : RightI s) {l c : ByteArray} (hl : l.size = 16) (hc : c.size = 40) (h1 : ∀ c, ¬ inB s.bs l c) (hn : roomy s = true ∨ sizeB (wideN s) = true) : putS s l c = (setS (moreS s) l c, 0) ∧ RightI (putS s l c).1 ∧ (putS s l c).1.many = s.many + 1 ∧
    ∀ l' c', inB (putS s l c).1.bs l' c' ↔ (l' = l ∧ c' = c) ∨ (l' ≠ l ∧ inB s.bs l' c') := by
  have g := find_not h h1
  have he : putS s l c = (setS (moreS s) l c, 0) := by
    unfold putS
    rw [if_pos (put_ok h hl hc), if_pos g, if_pos (by simpa using hn)]
  obtain ⟨k, _, _, _, _, _, _, k7, k8, k9⟩ := more_set (cell := c) h hl hc hn g
  refine ⟨he, put_right h hl hc, by rw [he]; exact k9, fun l' c' => ?_⟩
  rw [he]
  show inB (setS (moreS s) l c).bs l' c' ↔ _
  rw [k8]
  constructor
  · rintro (h2 | h2)
    · exact .inl h2
    · exact .inr ⟨fun e => h1 c' (e ▸ h2), h2⟩
  · rintro (h2 | h2)
    · exact .inl h2
    · exact .inr h2.2
theorem nodup_le {α : Type} [DecidableEq α] : ∀ (l m : List α), l.Nodup → (∀ x ∈ l, x ∈ m) → l.length ≤ m.length
  | [], m, _, _ => Nat.zero_le _
  | a :: l, m, hn, hs => by
    rw [List.nodup_cons] at hn
    have h1 := hs a List.mem_cons_self
    have := nodup_le l (m.erase a) hn.2 (fun x hx => (List.mem_erase_of_ne (fun (e : x = a) => hn.1 (by rw [← e]; exact hx))).2 (hs x (List.mem_cons_of_mem _ hx)))
    rw [List.length_erase_of_mem h1] at this
    have hp := List.length_pos_of_mem h1
    rw [List.length_cons]
    omega
/-- All labels are the law's. -/
def labs40 (s : Sto) : Prop := ∀ l c, inB s.bs l c → ∃ k, k < 40 ∧ l = labS k
theorem used40 {s : Sto} (h : RightI s) (hl : labs40 s) : 0 ≤ s.many ∧ s.many ≤ 40 := by
  have hm := h.many
  have hn := keys_nodup h s.bs.length (Nat.le_refl _)
  rw [List.take_length] at hn
  have := nodup_le (keysB s.bs) ((List.range 40).map labS) hn (fun x hx => by
    obtain ⟨b, hb, rfl⟩ := List.mem_map.1 hx
    obtain ⟨hb, hu⟩ := List.mem_filter.1 hb
    obtain ⟨j, hj, e⟩ := List.getElem_of_mem hb
    have ha := atB_get hj
    obtain ⟨k, hk, e2⟩ := hl b.lab b.cell ⟨j, hj, by rw [ha, e]; simpa using hu, by rw [ha, e], by rw [ha, e]⟩
    exact List.mem_map.2 ⟨k, List.mem_range.2 hk, e2.symm⟩)
  rw [keysB_length, List.length_map, List.length_range] at this
  omega
theorem sizeB_iff (n : Int) : sizeB n = true ↔ n = 8 ∨ n = 16 ∨ n = 32 ∨ n = 64 ∨ n = 128 ∨ n = 256 ∨ n = 512 ∨ n = 1024 ∨ n = 2048 ∨ n = 4096 := by simp [sizeB]
theorem wide40 {s : Sto} (h : RightI s) (hm : s.many ≤ 40) : sizeB (wideN s) = true := by
  have hs := (sizeB_iff _).1 h.size
  rw [sizeB_iff]
  unfold wideN
  split <;> omega
theorem labI_40 (n : Int) : ∃ k, k < 40 ∧ labI n = labS k := ⟨_, pick_lt (n := n) (m := 40) (by omega), rfl⟩
/-- Put, of the law's labels and cells. -/
theorem put_40 {s : Sto} (h : RightI s) (hl : labs40 s) (n c : Int) : (putS s (labI n) (cellI c)).2 = 0 ∧ RightI (putS s (labI n) (cellI c)).1 ∧ labs40 (putS s (labI n) (cellI c)).1 ∧
    ∀ l' c', inB (putS s (labI n) (cellI c)).1.bs l' c' ↔ (l' = labI n ∧ c' = cellI c) ∨ (l' ≠ labI n ∧ inB s.bs l' c') := by
  have key : (putS s (labI n) (cellI c)).2 = 0 ∧ RightI (putS s (labI n) (cellI c)).1 ∧ ∀ l' c', inB (putS s (labI n) (cellI c)).1.bs l' c' ↔ (l' = labI n ∧ c' = cellI c) ∨ (l' ≠ labI n ∧ inB s.bs l' c') := by
    rcases in_dec s (labI n) with ⟨c0, h0⟩ | h0
    · obtain ⟨k, _, _, _, _, he, hr, hi⟩ := put_over (c := cellI c) h (labI_size n) (cellI_size c) h0
      exact ⟨by rw [he], hr, hi⟩
    · obtain ⟨he, hr, _, hi⟩ := put_new (c := cellI c) h (labI_size n) (cellI_size c) h0 (.inr (wide40 h (used40 h hl).2))
      exact ⟨by rw [he], hr, hi⟩
  refine ⟨key.1, key.2.1, fun l c' hin => ?_, key.2.2⟩
  rcases (key.2.2 _ _).1 hin with ⟨rfl, _⟩ | ⟨_, h2⟩
  · exact labI_40 n
  · exact hl _ _ h2
theorem del_40 {s : Sto} (h : RightI s) (hl : labs40 s) (n : Int) : (delS s (labI n)).2.2 = 0 ∧ ((delS s (labI n)).2.1 = true ↔ ∃ c, inB s.bs (labI n) c) ∧ RightI (delS s (labI n)).1 ∧ labs40 (delS s (labI n)).1 ∧
    ∀ l' c', inB (delS s (labI n)).1.bs l' c' ↔ (l' ≠ labI n ∧ inB s.bs l' c') := by
  rcases in_dec s (labI n) with ⟨c0, h0⟩ | h0
  · obtain ⟨s', he, hr, _, _, _, hi⟩ := del_in h h0
    rw [he]
    exact ⟨rfl, ⟨fun _ => ⟨c0, h0⟩, fun _ => rfl⟩, hr, fun l c hin => hl _ _ ((hi _ _).1 hin).2, hi⟩
  · rw [del_not h h0]
    exact ⟨rfl, ⟨fun e => (by cases e), fun ⟨c, hc⟩ => absurd hc (h0 c)⟩, h, hl, fun l' c' => ⟨fun h2 => ⟨fun e => h0 c' (e ▸ h2), h2⟩, fun h2 => h2.2⟩⟩
theorem fresh_labs (n : Nat) : labs40 (freshS n) := fun l c h => absurd h (fresh_in n l c)
theorem step_labs {s : Sto} (h : RightI s) (hl : labs40 s) (x : Stp) : labs40 (stepS s x) := by
  unfold stepS
  split
  · exact (put_40 h hl _ _).2.2.1
  · exact (del_40 h hl _).2.2.2.1
theorem store_labs (raw : List Stp) : labs40 (storeS raw) := by
  unfold storeS
  have : ∀ (l : List Stp) (s : Sto), RightI s → labs40 s → labs40 (l.foldl stepS s) := by
    intro l
    induction l with
    | nil => exact fun s _ h => h
    | cons x l ih => exact fun s h hl => ih _ (step_right h x) (step_labs h hl x)
  exact this _ _ (fresh_right fresh8) (fresh_labs 8)
end Go.Proofs.Ythijmjglpcljcaa.Sy
