/- Layer 12: what was put last; what comes of labels that are put once; room. -/
import Derived.Test.YthijmjglpcljcaaB12z
namespace Go.Proofs.Ythijmjglpcljcaa.Sy
open Go Go.RowKit
set_option linter.unusedVariables false
set_option linter.unusedSimpArgs false
theorem labI_nat {k : Nat} (h : k < 40) : labI k = labS k := by
  unfold labI pickI
  rw [if_neg (by omega), Int.emod_eq_of_lt (by omega) (by omega)]
  rfl
theorem labS_inj' {j k : Nat} (hj : j < 40) (hk : k < 40) (h : labS j = labS k) : j = k := by
  have := labS_inj ⟨j, hj⟩ ⟨k, hk⟩ h
  simpa using this
/-- What is known of each of the law's labels: the cell that is there, or that there is none. -/
def LastI (s : Sto) (now : List ByteArray) : Prop := now.length = 40 ∧ ∀ k, k < 40 → (now.getD k ⟨#[]⟩ = ⟨#[]⟩ ∧ ∀ c, ¬ inB s.bs (labS k) c) ∨ (now.getD k ⟨#[]⟩ ≠ ⟨#[]⟩ ∧ inB s.bs (labS k) (now.getD k ⟨#[]⟩))
theorem getD_set' {α : Type} {l : List α} {k j : Nat} {a d : α} (hk : k < l.length) : (l.set k a).getD j d = if k = j then a else l.getD j d := by
  rw [List.getD_eq_getElem?_getD, List.getD_eq_getElem?_getD, List.getElem?_set]
  by_cases e : k = j
  · subst e; simp [hk]
  · simp [e]
theorem last_put {s : Sto} {now : List ByteArray} (hr : RightI s) (hl : labs40 s) (h : LastI s now) (n c : Int) : LastI (putS s (labI n) (cellI c)).1 (now.set (pickI n 40).toNat (cellI c)) := by
  obtain ⟨_, _, _, hi⟩ := put_40 hr hl n c
  have hk : (pickI n 40).toNat < 40 := pick_lt (m := 40) (by omega)
  refine ⟨by rw [List.length_set]; exact h.1, fun k hk' => ?_⟩
  rw [getD_set' (by rw [h.1]; exact hk)]
  by_cases e : (pickI n 40).toNat = k
  · rw [if_pos e]
    refine .inr ⟨cellI_ne c, (hi _ _).2 (.inl ⟨?_, rfl⟩)⟩
    rw [← e]; rfl
  · rw [if_neg e]
    have hne : labS k ≠ labI n := fun e' => e (labS_inj' hk hk' e'.symm)
    rcases h.2 k hk' with ⟨h1, h2⟩ | ⟨h1, h2⟩
    · exact .inl ⟨h1, fun c' hin => ((hi _ _).1 hin).elim (fun g => hne g.1) (fun g => h2 c' g.2)⟩
    · exact .inr ⟨h1, (hi _ _).2 (.inr ⟨hne, h2⟩)⟩
theorem last_del {s : Sto} {now : List ByteArray} (hr : RightI s) (hl : labs40 s) (h : LastI s now) (n : Int) : LastI (delS s (labI n)).1 (now.set (pickI n 40).toNat ⟨#[]⟩) ∧ (delS s (labI n)).2.1 = decide (now.getD (pickI n 40).toNat ⟨#[]⟩ ≠ ⟨#[]⟩) := by
  obtain ⟨_, his, _, _, hi⟩ := del_40 hr hl n
  have hk : (pickI n 40).toNat < 40 := pick_lt (m := 40) (by omega)
  refine ⟨⟨by rw [List.length_set]; exact h.1, fun k hk' => ?_⟩, ?_⟩
  · rw [getD_set' (by rw [h.1]; exact hk)]
    by_cases e : (pickI n 40).toNat = k
    · rw [if_pos e]
      refine .inl ⟨rfl, fun c hin => ((hi _ _).1 hin).1 ?_⟩
      rw [← e]; rfl
    · rw [if_neg e]
      have hne : labS k ≠ labI n := fun e' => e (labS_inj' hk hk' e'.symm)
      rcases h.2 k hk' with ⟨h1, h2⟩ | ⟨h1, h2⟩
      · exact .inl ⟨h1, fun c' hin => h2 c' ((hi _ _).1 hin).2⟩
      · exact .inr ⟨h1, (hi _ _).2 ⟨hne, h2⟩⟩
  · rcases h.2 _ hk with ⟨h1, h2⟩ | ⟨h1, h2⟩
    · rw [h1]
      have : ¬ (delS s (labI n)).2.1 = true := fun g => by obtain ⟨c, hc⟩ := his.1 g; exact h2 c hc
      simpa using this
    · rw [his.2 ⟨_, h2⟩]
      exact (decide_eq_true h1).symm
theorem last_get {s : Sto} {now : List ByteArray} (hr : RightI s) (h : LastI s now) {k : Nat} (hk : k < 40) : getS s (labS k) = (now.getD k ⟨#[]⟩, decide (now.getD k ⟨#[]⟩ ≠ ⟨#[]⟩)) := by
  rcases h.2 k hk with ⟨h1, h2⟩ | ⟨h1, h2⟩
  · rw [get_not hr h2, h1]; rfl
  · rw [get_in hr h2, decide_eq_true h1]
/-- How many labels are there, of the first ones. -/
def haveN (now : List ByteArray) (n : Nat) : Nat := (List.range n).countP fun k => decide (now.getD k ⟨#[]⟩ ≠ ⟨#[]⟩)
theorem haveN_succ (now : List ByteArray) (n : Nat) : haveN now (n + 1) = haveN now n + (if now.getD n ⟨#[]⟩ ≠ ⟨#[]⟩ then 1 else 0) := by
  unfold haveN
  rw [List.range_succ, List.countP_append, List.countP_singleton]
  simp
theorem haveN_le (now : List ByteArray) (n : Nat) : haveN now n ≤ n := by
  have := List.countP_le_length (p := fun k => decide (now.getD k ⟨#[]⟩ ≠ ⟨#[]⟩)) (l := List.range n)
  rw [List.length_range] at this
  exact this
theorem keys_mem (bs : List Bkt) (l : ByteArray) : l ∈ keysB bs ↔ ∃ c, inB bs l c := by
  constructor
  · intro h
    obtain ⟨b, hb, rfl⟩ := List.mem_map.1 h
    obtain ⟨hb, hu⟩ := List.mem_filter.1 hb
    obtain ⟨j, hj, e⟩ := List.getElem_of_mem hb
    exact ⟨b.cell, j, hj, by rw [atB_get hj, e]; exact ⟨by simpa using hu, rfl, rfl⟩⟩
  · rintro ⟨c, j, hj, h1, h2, h3⟩
    rw [atB_get hj] at h1 h2
    exact List.mem_map.2 ⟨bs[j], List.mem_filter.2 ⟨List.getElem_mem hj, by simpa using h1⟩, h2⟩
theorem last_many {s : Sto} {now : List ByteArray} (hr : RightI s) (hl : labs40 s) (h : LastI s now) : s.many = haveN now 40 := by
  have hm := hr.many
  have hn := keys_nodup hr s.bs.length (Nat.le_refl _)
  rw [List.take_length] at hn
  obtain ⟨B, hB⟩ : ∃ B, B = (List.range 40).filter (fun k => decide (now.getD k ⟨#[]⟩ ≠ ⟨#[]⟩)) := ⟨_, rfl⟩
  have hBl : haveN now 40 = B.length := by unfold haveN; rw [List.countP_eq_length_filter, hB]
  have hBm : ∀ k, k ∈ B ↔ k < 40 ∧ now.getD k ⟨#[]⟩ ≠ ⟨#[]⟩ := by intro k; rw [hB, List.mem_filter, List.mem_range, decide_eq_true_eq]
  have hBn : (B.map labS).Nodup := by
    have hBd : B.Nodup := by rw [hB]; exact List.Pairwise.filter _ List.nodup_range
    exact List.pairwise_map.2 (List.Pairwise.imp_of_mem (fun {a b} ha hb (hne : a ≠ b) e => hne (labS_inj' ((hBm a).1 ha).1 ((hBm b).1 hb).1 e)) hBd)
  have e1 := nodup_le (keysB s.bs) (B.map labS) hn (fun x hx => by
    obtain ⟨c, hc⟩ := (keys_mem _ _).1 hx
    obtain ⟨k, hk, rfl⟩ := hl x c hc
    refine List.mem_map.2 ⟨k, (hBm k).2 ⟨hk, ?_⟩, rfl⟩
    rcases h.2 k hk with ⟨_, h2⟩ | ⟨h1, _⟩
    · exact absurd hc (h2 c)
    · exact h1)
  have e2 := nodup_le (B.map labS) (keysB s.bs) hBn (fun x hx => by
    obtain ⟨k, hk, rfl⟩ := List.mem_map.1 hx
    obtain ⟨hk, hne⟩ := (hBm k).1 hk
    rcases h.2 k hk with ⟨h1, _⟩ | ⟨_, h2⟩
    · exact absurd h1 hne
    · exact (keys_mem _ _).2 ⟨_, h2⟩)
  rw [keysB_length, List.length_map] at e1 e2
  omega
theorem last_fresh : LastI (freshS 8) (List.replicate 40 ⟨#[]⟩) := by
  refine ⟨by simp, fun k hk => .inl ⟨?_, fun c => fresh_in 8 _ c⟩⟩
  rw [List.getD_eq_getElem?_getD, List.getElem?_replicate]
  split <;> rfl
/-- All that there is lies by labels. -/
theorem all_props {s : Sto} (h : RightI s) : byLab (allS s) ∧ (allS s).Perm (usedP s.bs) := by
  have hn := keys_nodup h s.bs.length (Nat.le_refl _)
  rw [List.take_length] at hn
  unfold allS
  rw [if_pos ((right_iff s).2 h)]
  have := ins_all (usedP s.bs) [] List.Pairwise.nil (by rw [keys_usedP]; exact hn) (fun _ _ _ hy => by simp at hy)
  rw [List.append_nil] at this
  exact this
theorem all_length {s : Sto} (h : RightI s) : ((allS s).length : Int) = s.many := by
  rw [(all_props h).2.length_eq, ← h.many]
  have := congrArg List.length (keys_usedP s.bs)
  rw [List.length_map, keysB_length] at this
  rw [this]
theorem all_mem {s : Sto} (h : RightI s) (p : ByteArray × ByteArray) : p ∈ allS s ↔ inB s.bs p.1 p.2 := by
  rw [(all_props h).2.mem_iff]
  unfold usedP
  constructor
  · intro hp
    obtain ⟨b, hb, rfl⟩ := List.mem_map.1 hp
    obtain ⟨hb, hu⟩ := List.mem_filter.1 hb
    obtain ⟨j, hj, e⟩ := List.getElem_of_mem hb
    exact ⟨j, hj, by rw [atB_get hj, e]; exact ⟨by simpa using hu, rfl, rfl⟩⟩
  · rintro ⟨j, hj, h1, h2, h3⟩
    rw [atB_get hj] at h1 h2 h3
    exact List.mem_map.2 ⟨s.bs[j], List.mem_filter.2 ⟨List.getElem_mem hj, by simpa using h1⟩, by rw [h2, h3]⟩
theorem perm_of_same {α : Type} [DecidableEq α] : ∀ {l m : List α}, l.Nodup → m.Nodup → (∀ x, x ∈ l ↔ x ∈ m) → l.Perm m
  | [], m, _, _, h => by
    have : m = [] := List.eq_nil_iff_forall_not_mem.2 fun x hx => by simpa using (h x).2 hx
    rw [this]
  | a :: l, m, hl, hm, h => by
    rw [List.nodup_cons] at hl
    have ha : a ∈ m := (h a).1 List.mem_cons_self
    have hne : (m.erase a).Nodup := hm.sublist List.erase_sublist
    have ih := perm_of_same (l := l) (m := m.erase a) hl.2 hne (fun x => by
      rw [hm.mem_erase_iff]
      constructor
      · intro hx
        exact ⟨fun e => hl.1 (e ▸ hx), (h x).1 (List.mem_cons_of_mem _ hx)⟩
      · rintro ⟨h1, h2⟩
        rcases List.mem_cons.1 ((h x).2 h2) with e | e
        · exact absurd e h1
        · exact e)
    exact (ih.cons a).trans (List.perm_cons_erase ha).symm
theorem byLab_nodup {l : Prs} (h : byLab l) : l.Nodup := List.Pairwise.imp (fun {a b} hab e => by subst e; rw [ltB_irrefl] at hab; cases hab) h
/-- The same cells make the same list. -/
theorem all_same {a b : Sto} (ha : RightI a) (hb : RightI b) (h : ∀ l c, inB a.bs l c ↔ inB b.bs l c) : allS a = allS b := by
  obtain ⟨a1, a2⟩ := all_props ha
  obtain ⟨b1, b2⟩ := all_props hb
  refine byLab_unique a1 (fun i j h1 h2 hij => ?_) (perm_of_same (byLab_nodup a1) (byLab_nodup b1) (fun x => by rw [all_mem ha, all_mem hb]; exact h _ _))
  have := List.pairwise_iff_getElem.1 b1 i j h1 h2 hij
  cases e : ltB (allS b)[j].1 (allS b)[i].1 with
  | false => rfl
  | true =>
    have := ltB_trans this e
    rw [ltB_irrefl] at this
    cases this
/-- Labels that are put, each once. -/
def PutsI (s : Sto) (xs : List Int) : Prop := RightI s ∧ labs40 s ∧ s.many = xs.length ∧ ∀ l c, inB s.bs l c ↔ ∃ x ∈ xs, l = labI x ∧ c = cellI x
theorem puts_step {s : Sto} {xs : List Int} (h : PutsI s xs) {n : Int} (hn : ∀ x ∈ xs, pickI x 40 ≠ pickI n 40) : (putS s (labI n) (cellI n)).2 = 0 ∧ PutsI (putS s (labI n) (cellI n)).1 (xs ++ [n]) := by
  obtain ⟨hr, hl, hm, hi⟩ := h
  have h0 : ∀ c, ¬ inB s.bs (labI n) c := by
    intro c hin
    obtain ⟨x, hx, e, _⟩ := (hi _ _).1 hin
    exact hn x hx (labI_inj e.symm)
  obtain ⟨p1, p2, p3, p4⟩ := put_40 hr hl n n
  obtain ⟨_, _, hm', _⟩ := put_new (c := cellI n) hr (labI_size n) (cellI_size n) h0 (.inr (wide40 hr (used40 hr hl).2))
  refine ⟨p1, p2, p3, by rw [hm', hm, List.length_append]; rfl, fun l c => ?_⟩
  rw [p4, hi]
  constructor
  · rintro (⟨rfl, rfl⟩ | ⟨_, x, hx, h⟩)
    · exact ⟨n, by simp, rfl, rfl⟩
    · exact ⟨x, List.mem_append_left _ hx, h⟩
  · rintro ⟨x, hx, rfl, rfl⟩
    rcases List.mem_append.1 hx with hx | hx
    · exact .inr ⟨fun e => hn x hx (labI_inj e), x, hx, rfl, rfl⟩
    · rw [List.mem_singleton] at hx
      subst hx
      exact .inl ⟨rfl, rfl⟩
theorem puts_fresh {n : Nat} (h : sizeB (n : Nat) = true) : PutsI (freshS n) [] :=
  ⟨fresh_right h, fresh_labs n, rfl, fun l c => ⟨fun g => absurd g (fresh_in n l c), fun ⟨x, hx, _⟩ => by simp at hx⟩⟩
theorem puts_same {a b : Sto} {xs ys : List Int} (ha : PutsI a xs) (hb : PutsI b ys) (h : ∀ x, x ∈ xs ↔ x ∈ ys) : allS a = allS b :=
  all_same ha.1 hb.1 fun l c => by
    rw [ha.2.2.2, hb.2.2.2]
    exact ⟨fun ⟨x, hx, g⟩ => ⟨x, (h x).1 hx, g⟩, fun ⟨x, hx, g⟩ => ⟨x, (h x).2 hx, g⟩⟩
/-- Few labels, put and taken away at once. -/
def RoomI (s : Sto) : Prop := RightI s ∧ s.many = 0 ∧ s.bs.length = 8
theorem room_none {s : Sto} (h : RightI s) (hm : s.many = 0) (l c : ByteArray) : ¬ inB s.bs l c := by
  intro hin
  have hk := (keys_mem _ _).2 ⟨c, hin⟩
  have := keysB_length s.bs
  have h2 := h.many
  have h3 := List.length_pos_of_mem hk
  omega
theorem room_step {s : Sto} (h : RoomI s) (n c : Int) : ∃ t u, putS s (labI n) (cellI c) = (t, 0) ∧ delS t (labI n) = (u, true, 0) ∧ RightI t ∧ RoomI u ∧ u.gone ≤ 6 := by
  obtain ⟨hr, hm, hlen⟩ := h
  have h0 := fun c => room_none hr hm (labI n) c
  have hw : sizeB (wideN s) = true := wide40 hr (by omega)
  obtain ⟨he, hr', hm', hi⟩ := put_new (c := cellI c) hr (labI_size n) (cellI_size c) h0 (.inr hw)
  obtain ⟨u, d1, d2, d3, d4, d5, d6⟩ := del_in hr' ((hi (labI n) (cellI c)).2 (.inl ⟨rfl, rfl⟩))
  have hl : (putS s (labI n) (cellI c)).1.bs.length = 8 := by
    rw [he, setS_len, (more_ok hr (.inr hw)).2.2.2.2]
    have hw8 : wideN s = 8 := by
      unfold wideN
      rw [if_neg (by omega), hlen]
    rw [hw8, hlen, ite_self]
  refine ⟨_, u, by rw [he], d1, hr', ⟨d2, by omega, by omega⟩, ?_⟩
  have := d2.load
  omega
theorem room_fresh : RoomI (freshS 8) := ⟨fresh_right fresh8, rfl, by simp⟩
theorem room_all {s : Sto} (h : RoomI s) : allS s = [] := by
  have := all_length h.1
  rw [h.2.1] at this
  exact List.eq_nil_of_length_eq_zero (by omega)
end Go.Proofs.Ythijmjglpcljcaa.Sy
