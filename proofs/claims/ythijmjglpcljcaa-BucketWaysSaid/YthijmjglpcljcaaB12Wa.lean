/- Layer 12: whose places there are: how wide a store of the law's labels gets. -/
import Derived.Test.YthijmjglpcljcaaB12z
namespace Go.Proofs.Ythijmjglpcljcaa.Sy
open Go Go.RowKit
set_option linter.unusedVariables false
set_option linter.unusedSimpArgs false
/-- A label's room lies behind Used buckets. -/
theorem room_first {bs : List Bkt} {lab : ByteArray} {k : Nat} (hk : (findB bs lab).2 = k) (hn : 0 < bs.length) : ∃ i, i < bs.length ∧ placeN bs.length (homeN lab bs.length) i = k ∧ ∀ i', i' < i → (atB bs (placeN bs.length (homeN lab bs.length) i')).st = 1 := by
  rcases scan_room (lab := lab) (home := homeN lab bs.length) hn bs.length 0 (-1) (.inl rfl) with ⟨g, _⟩ | ⟨_, ⟨g1, g2⟩ | ⟨i, g1, g2, g3, g4, g5⟩⟩
  · omega
  · unfold findB at hk; omega
  · refine ⟨i, by omega, ?_, fun i' hi' => g5 i' (by omega) hi'⟩
    unfold findB at hk; omega
/-- From a label's home to a place there is no Free bucket. -/
def onWay (bs : List Bkt) (l : ByteArray) (j : Nat) : Prop := ∃ i, i < bs.length ∧ placeN bs.length (homeN l bs.length) i = j ∧ ∀ i', i' < i → (atB bs (placeN bs.length (homeN l bs.length) i')).st ≠ 0
theorem onWay_set {bs : List Bkt} {l : ByteArray} {j k : Nat} {b : Bkt} (h : onWay bs l j) (hk : k < bs.length) (hb : b.st ≠ 0) : onWay (bs.set k b) l j := by
  obtain ⟨i, h1, h2, h3⟩ := h
  unfold onWay
  rw [List.length_set]
  refine ⟨i, h1, h2, fun i' hi => ?_⟩
  rw [atB_set hk]
  split
  · exact hb
  · exact h3 i' hi
theorem st_of_may {b : Bkt} (h : mayB b = true) : b.st = 0 ∨ b.st = 1 ∨ b.st = 2 := by
  unfold mayB at h
  split at h
  · next e => exact .inr (.inl e)
  · simp only [Bool.and_eq_true, Bool.or_eq_true, decide_eq_true_eq] at h
    omega
/-- Whose the places are that are not Free: the last label's that stood there; L: the places that were taken over. -/
structure OwnI (s : Sto) (own : Nat → ByteArray) (L : List Nat) (t : Nat) : Prop where
  used : ∀ j, j < s.bs.length → (atB s.bs j).st = 1 → own j = (atB s.bs j).lab
  lab : ∀ j, j < s.bs.length → (atB s.bs j).st ≠ 0 → ∃ k, k < 40 ∧ own j = labS k
  way : ∀ j, j < s.bs.length → (atB s.bs j).st ≠ 0 → onWay s.bs (own j) j
  one : ∀ j j', j < s.bs.length → j' < s.bs.length → (atB s.bs j).st ≠ 0 → (atB s.bs j').st ≠ 0 → j ∉ L → j' ∉ L → own j = own j' → j = j'
  steps : s.many + 2 * s.gone + 2 * L.length ≤ t
theorem countP_range {p : Bkt → Bool} (bs : List Bkt) : (List.range bs.length).countP (fun j => p (atB bs j)) = bs.countP p := by
  have e : (List.range bs.length).map (atB bs) = bs := by
    refine List.ext_getElem (by simp) fun i h1 h2 => ?_
    simp only [List.getElem_map, List.getElem_range]
    exact atB_get h2
  conv => rhs; rw [← e, List.countP_map]
  rfl
theorem countP_kinds : ∀ l : List Bkt, (∀ b ∈ l, b.st = 0 ∨ b.st = 1 ∨ b.st = 2) → l.countP (fun b => decide (b.st ≠ 0)) = usedN l + goneN l
  | [], _ => rfl
  | b :: l, h => by
    have ih := countP_kinds l (fun x hx => h x (List.mem_cons_of_mem _ hx))
    unfold usedN goneN at ih ⊢
    rw [List.countP_cons, List.countP_cons, List.countP_cons, ih]
    rcases h b List.mem_cons_self with e | e | e <;> rw [e] <;> simp <;> omega
theorem own_le {s : Sto} {own : Nat → ByteArray} {L : List Nat} {t : Nat} (hr : RightI s) (h : OwnI s own L t) : s.many + s.gone ≤ 40 + L.length := by
  obtain ⟨P, hP⟩ : ∃ P, P = (List.range s.bs.length).filter (fun j => decide ((atB s.bs j).st ≠ 0)) := ⟨_, rfl⟩
  have hc : (P.length : Int) = s.many + s.gone := by
    rw [hP, ← List.countP_eq_length_filter, countP_range (p := fun b => decide (b.st ≠ 0)), countP_kinds]
    · rw [← hr.many, ← hr.gone]; omega
    · intro b hb
      obtain ⟨j, hj, e⟩ := List.getElem_of_mem hb
      have := hr.may j hj
      rw [atB_get hj, e] at this
      exact st_of_may this
  have hn : P.Nodup := by rw [hP]; exact List.Pairwise.filter _ List.nodup_range
  have hm : ∀ j ∈ P, j < s.bs.length ∧ (atB s.bs j).st ≠ 0 := by
    intro j hj
    rw [hP, List.mem_filter, List.mem_range, decide_eq_true_eq] at hj
    exact hj
  have e1 := List.length_eq_countP_add_countP (fun j => decide (j ∈ L)) (l := P)
  rw [List.countP_eq_length_filter, List.countP_eq_length_filter] at e1
  have e2 := nodup_le (P.filter fun j => decide (j ∈ L)) L (List.Pairwise.filter _ hn) (fun x hx => by simpa using (List.mem_filter.1 hx).2)
  obtain ⟨Q, hQ⟩ : ∃ Q, Q = P.filter (fun j => decide (¬ (decide (j ∈ L) = true))) := ⟨_, rfl⟩
  rw [← hQ] at e1
  have hq : ∀ j ∈ Q, j < s.bs.length ∧ (atB s.bs j).st ≠ 0 ∧ j ∉ L := by
    intro j hj
    rw [hQ, List.mem_filter] at hj
    exact ⟨(hm j hj.1).1, (hm j hj.1).2, by simpa using hj.2⟩
  have hqn : Q.Nodup := by rw [hQ]; exact List.Pairwise.filter _ hn
  have e3 := nodup_le (Q.map own) ((List.range 40).map labS) (List.pairwise_map.2 (List.Pairwise.imp_of_mem (fun {a b} ha hb hne e => hne (h.one a b (hq a ha).1 (hq b hb).1 (hq a ha).2.1 (hq b hb).2.1 (hq a ha).2.2 (hq b hb).2.2 e)) hqn)) (fun x hx => by
    obtain ⟨j, hj, rfl⟩ := List.mem_map.1 hx
    obtain ⟨k, hk, e⟩ := h.lab j (hq j hj).1 (hq j hj).2.1
    exact List.mem_map.2 ⟨k, List.mem_range.2 hk, e.symm⟩)
  rw [List.length_map, List.length_map, List.length_range] at e3
  omega
theorem own_labs {s : Sto} {own : Nat → ByteArray} {L : List Nat} {t : Nat} (h : OwnI s own L t) : labs40 s := by
  rintro l c ⟨j, h1, h2, h3, h4⟩
  obtain ⟨k, hk, e⟩ := h.lab j h1 (by omega)
  exact ⟨k, hk, by rw [← h3, ← h.used j h1 h2, e]⟩
/-- A label that is not there is set. -/
theorem own_set {s : Sto} {own : Nat → ByteArray} {L : List Nat} {t : Nat} (h0 : Right0 s) (h : OwnI s own L t) {l c : ByteArray} (hl : l.size = 16) (hc : c.size = 40) (hlab : ∃ k, k < 40 ∧ l = labS k) (hnew : ∀ c, ¬ inB s.bs l c) (hu : usedN s.bs < s.bs.length) :
    ∃ own' L', OwnI (setS s l c) own' L' (t + 1) := by
  obtain ⟨k, k1, k2, k3, _⟩ := set_ok (cell := c) h0 hl hc hnew hu
  have hn : 0 < s.bs.length := by omega
  rw [setS_of k2]
  have hat : ∀ j, atB (setOf s k l c).bs j = if k = j then ⟨1, l, c⟩ else atB s.bs j := fun j => atB_set k1
  have hlen : (setOf s k l c).bs.length = s.bs.length := by simp [setOf]
  have hused : ∀ j, j < s.bs.length → (atB (setOf s k l c).bs j).st = 1 → (if j = k then l else own j) = (atB (setOf s k l c).bs j).lab := by
    intro j hj hu'
    rw [hat] at hu' ⊢
    by_cases e : k = j
    · rw [if_pos e, if_pos e.symm]
    · rw [if_neg e, if_neg (fun e' => e e'.symm)]
      rw [if_neg e] at hu'
      exact h.used j hj hu'
  have hlab' : ∀ j, j < s.bs.length → (atB (setOf s k l c).bs j).st ≠ 0 → ∃ k', k' < 40 ∧ (if j = k then l else own j) = labS k' := by
    intro j hj hu'
    rw [hat] at hu'
    by_cases e : k = j
    · rw [if_pos e.symm]; exact hlab
    · rw [if_neg (fun e' => e e'.symm)]
      rw [if_neg e] at hu'
      exact h.lab j hj hu'
  have hway : ∀ j, j < s.bs.length → (atB (setOf s k l c).bs j).st ≠ 0 → onWay (setOf s k l c).bs (if j = k then l else own j) j := by
    intro j hj hu'
    rw [hat] at hu'
    by_cases e : k = j
    · rw [if_pos e.symm]
      refine onWay_set ?_ k1 (by simp)
      rw [← e]
      exact room_path k2 hn
    · rw [if_neg (fun e' => e e'.symm)]
      rw [if_neg e] at hu'
      exact onWay_set (h.way j hj hu') k1 (by simp)
  have hmay := st_of_may (h0.may k k1)
  by_cases hf : (atB s.bs k).st = 0
  · refine ⟨fun j => if j = k then l else own j, L, ⟨by rw [hlen]; exact hused, by rw [hlen]; exact hlab', by rw [hlen]; exact hway, ?_, ?_⟩⟩
    · have key : ∀ j', j' < s.bs.length → (atB s.bs j').st ≠ 0 → own j' ≠ l := by
        intro j' hj' hs e
        obtain ⟨i, i1, i2, i3⟩ := room_first k2 hn
        obtain ⟨i', i4, i5, i6⟩ := h.way j' hj' hs
        rw [e] at i5 i6
        rcases Nat.lt_trichotomy i' i with g | g | g
        · have := i3 i' g
          rw [i5] at this
          exact hnew _ ⟨j', hj', this, (h.used j' hj' this).symm.trans e, rfl⟩
        · subst g
          rw [i2] at i5
          rw [← i5] at hs
          exact hs hf
        · have := i6 i g
          rw [i2] at this
          exact this hf
      rw [hlen]
      intro j j' hj hj' hs hs' hL hL' e
      rw [hat] at hs hs'
      by_cases e1 : k = j <;> by_cases e2 : k = j'
      · omega
      · rw [if_neg e2] at hs'
        simp only [if_pos e1.symm, if_neg (fun e' => e2 (Eq.symm e'))] at e
        exact absurd e.symm (key j' hj' hs')
      · rw [if_neg e1] at hs
        simp only [if_pos e2.symm, if_neg (fun e' => e1 (Eq.symm e'))] at e
        exact absurd e (key j hj hs)
      · rw [if_neg e1] at hs
        rw [if_neg e2] at hs'
        simp only [if_neg (fun e' => e1 (Eq.symm e')), if_neg (fun e' => e2 (Eq.symm e'))] at e
        exact h.one j j' hj hj' hs hs' hL hL' e
    · have := h.steps
      simp only [setOf, hf]
      simp only [show ((0 : Int) = 2) = False by simp, if_false]
      omega
  · have h2 : (atB s.bs k).st = 2 := by omega
    refine ⟨fun j => if j = k then l else own j, k :: L, ⟨by rw [hlen]; exact hused, by rw [hlen]; exact hlab', by rw [hlen]; exact hway, ?_, ?_⟩⟩
    · rw [hlen]
      intro j j' hj hj' hs hs' hL hL' e
      rw [List.mem_cons] at hL hL'
      have e1 : ¬ j = k := fun e => hL (.inl e)
      have e2 : ¬ j' = k := fun e => hL' (.inl e)
      rw [hat, if_neg (fun e => e1 e.symm)] at hs
      rw [hat, if_neg (fun e => e2 e.symm)] at hs'
      simp only [if_neg e1, if_neg e2] at e
      exact h.one j j' hj hj' hs hs' (fun g => hL (.inr g)) (fun g => hL' (.inr g)) e
    · have := h.steps
      simp only [setOf, h2, if_true, List.length_cons]
      omega
/-- A store of Used and Free buckets alone: each place is its label's. -/
theorem own_plain {s : Sto} (h0 : Right0 s) (hg : s.gone = 0) (hl : labs40 s) {t : Nat} (ht : s.many ≤ t) : ∃ own L, OwnI s own L t := by
  have h1 : ∀ j, j < s.bs.length → (atB s.bs j).st ≠ 0 → (atB s.bs j).st = 1 := by
    intro j hj hs
    rcases st_of_may (h0.may j hj) with e | e | e
    · exact absurd e hs
    · exact e
    · exfalso
      have hz : goneN s.bs = 0 := by have := h0.gone; omega
      unfold goneN at hz
      rw [List.countP_eq_zero] at hz
      rw [atB_get hj] at e
      exact hz _ (List.getElem_mem hj) (by simpa using e)
  refine ⟨fun j => (atB s.bs j).lab, [], ⟨fun j _ _ => rfl, fun j hj hs => ?_, fun j hj hs => h0.path j hj (h1 j hj hs), fun j j' hj hj' hs hs' _ _ e => h0.dist j j' hj hj' (h1 j hj hs) (h1 j' hj' hs') e, ?_⟩⟩
  · exact hl _ _ ⟨j, hj, h1 j hj hs, rfl, rfl⟩
  · rw [hg]
    simp only [List.length_nil]
    omega
theorem own_more {s : Sto} {own : Nat → ByteArray} {L : List Nat} {t : Nat} (hr : RightI s) (h : OwnI s own L t) (hn : roomy s = true ∨ sizeB (wideN s) = true) : ∃ own' L', OwnI (moreS s) own' L' t := by
  by_cases c : roomy s = true
  · unfold moreS
    rw [if_pos c]
    exact ⟨own, L, h⟩
  · unfold moreS
    rw [if_neg c]
    obtain ⟨w1, w2, w3, w4, w5⟩ := wide_ok hr (hn.resolve_left c)
    have hg := (right_small hr).2.2.2.2.1
    have := h.steps
    exact own_plain w1 w4 (fun l c hin => own_labs h l c ((w5 l c).1 hin)) (by omega)
theorem own_same {s s' : Sto} {own : Nat → ByteArray} {L : List Nat} {t : Nat} (h : OwnI s own L t) (hlen : s'.bs.length = s.bs.length) (hst : ∀ j, (atB s'.bs j).st = (atB s.bs j).st) (hlb : ∀ j, (atB s'.bs j).lab = (atB s.bs j).lab)
    (hm : s'.many = s.many) (hg : s'.gone = s.gone) : OwnI s' own L (t + 1) := by
  refine ⟨?_, ?_, ?_, ?_, ?_⟩
  · intro j hj hu
    rw [hlen] at hj
    rw [hst] at hu
    rw [hlb]
    exact h.used j hj hu
  · intro j hj hu
    rw [hlen] at hj
    rw [hst] at hu
    exact h.lab j hj hu
  · intro j hj hu
    rw [hlen] at hj
    rw [hst] at hu
    have := h.way j hj hu
    unfold onWay at this ⊢
    rw [hlen]
    simp only [hst]
    exact this
  · intro j j' hj hj' hs hs'
    rw [hlen] at hj hj'
    rw [hst] at hs hs'
    exact h.one j j' hj hj' hs hs'
  · have := h.steps
    rw [hm, hg]; omega
/-- How a store of the law's stands after t steps. -/
structure WaysI (s : Sto) (t : Nat) : Prop where
  right : RightI s
  len : s.bs.length = 8 ∨ s.bs.length = 16 ∨ s.bs.length = 32 ∨ s.bs.length = 64
  own : ∃ own L, OwnI s own L t
theorem WaysI.labs {s : Sto} {t : Nat} (h : WaysI s t) : labs40 s := by
  obtain ⟨own, L, ho⟩ := h.own
  exact own_labs ho
theorem ways_fresh : WaysI (freshS 8) 0 :=
  ⟨fresh_right fresh8, .inl (by simp), own_plain (fresh_right fresh8).r0 rfl (fresh_labs 8) (Int.le_refl 0)⟩
theorem ways_del {s : Sto} {t : Nat} (h : WaysI s t) (n : Int) : WaysI (delS s (labI n)).1 (t + 1) := by
  obtain ⟨own, L, ho⟩ := h.own
  have hr := dels_right h.right (labI n)
  unfold delS at hr ⊢
  rw [if_pos ((right_iff s).2 h.right)] at hr ⊢
  split at hr
  · next g =>
    rw [if_pos g]
    exact ⟨h.right, h.len, own, L, own_same ho rfl (fun _ => rfl) (fun _ => rfl) rfl rfl⟩
  · next g =>
    rw [if_neg g]
    rcases find_mem h.right.path h.right.dist (labI n) (size_pos h.right.size) with ⟨g', _⟩ | ⟨k, g1, g2, g3, g4⟩
    · exact absurd g' g
    · simp only [g2, Int.toNat_natCast] at hr ⊢
      refine ⟨hr, by simpa using h.len, own, L, ⟨?_, ?_, ?_, ?_, ?_⟩⟩
      · intro j hj hu
        simp only [List.length_set] at hj
        rw [atB_set g1] at hu ⊢
        by_cases e : k = j
        · rw [if_pos e] at hu; simp at hu
        · rw [if_neg e] at hu ⊢; exact ho.used j hj hu
      · intro j hj hu
        simp only [List.length_set] at hj
        rw [atB_set g1] at hu
        by_cases e : k = j
        · rw [← e]; exact ho.lab k g1 (by omega)
        · rw [if_neg e] at hu; exact ho.lab j hj hu
      · intro j hj hu
        simp only [List.length_set] at hj
        rw [atB_set g1] at hu
        refine onWay_set ?_ g1 (by simp)
        by_cases e : k = j
        · rw [← e]; exact ho.way k g1 (by omega)
        · rw [if_neg e] at hu; exact ho.way j hj hu
      · intro j j' hj hj' hs hs'
        simp only [List.length_set] at hj hj'
        rw [atB_set g1] at hs hs'
        refine ho.one j j' hj hj' ?_ ?_
        · by_cases e : k = j
          · rw [← e]; omega
          · rw [if_neg e] at hs; exact hs
        · by_cases e : k = j'
          · rw [← e]; omega
          · rw [if_neg e] at hs'; exact hs'
      · have := ho.steps
        simp only
        omega
theorem ways_put {s : Sto} {t : Nat} (h : WaysI s t) (ht : t < 60) (n c : Int) : WaysI (putS s (labI n) (cellI c)).1 (t + 1) := by
  obtain ⟨own, L, ho⟩ := h.own
  obtain ⟨_, p2, p3, _⟩ := put_40 h.right h.labs n c
  suffices hs : ((putS s (labI n) (cellI c)).1.bs.length = 8 ∨ (putS s (labI n) (cellI c)).1.bs.length = 16 ∨ (putS s (labI n) (cellI c)).1.bs.length = 32 ∨ (putS s (labI n) (cellI c)).1.bs.length = 64) ∧ ∃ own L, OwnI (putS s (labI n) (cellI c)).1 own L (t + 1) from ⟨p2, hs.1, hs.2⟩
  rcases in_dec s (labI n) with ⟨c0, h0⟩ | h0
  · obtain ⟨k, k1, k2, k3, _, he, _, _⟩ := put_over (c := cellI c) h.right (labI_size n) (cellI_size c) h0
    rw [he]
    refine ⟨by simpa using h.len, own, L, own_same ho (by simp) (fun j => ?_) (fun j => ?_) rfl rfl⟩
    · rw [atB_set k1]
      split
      · next e => rw [e]
      · rfl
    · rw [atB_set k1]
      split
      · next e => rw [e]
      · rfl
  · have hw : roomy s = true ∨ sizeB (wideN s) = true := .inr (wide40 h.right (used40 h.right h.labs).2)
    obtain ⟨he, hr', hm', _⟩ := put_new (c := cellI c) h.right (labI_size n) (cellI_size c) h0 hw
    have hm40 := (used40 p2 p3).2
    rw [hm'] at hm40
    rw [he]
    obtain ⟨m1, m2, m3, m4, m5⟩ := more_ok h.right hw
    have hle := own_le h.right ho
    have hst := ho.steps
    have hgo := (right_small h.right).2.2.2.2.1
    refine ⟨?_, ?_⟩
    · rw [setS_len, m5]
      by_cases c1 : roomy s = true
      · rw [if_pos c1]; exact h.len
      · rw [if_neg c1]
        have c2 : ¬ 4 * (s.many + s.gone + 1) ≤ 3 * s.bs.length := by simpa [roomy] using c1
        have := h.len
        unfold wideN
        split <;> omega
    · obtain ⟨own', L', ho'⟩ := own_more h.right ho hw
      have hmm := m1.many
      have hgg := m1.gone
      exact own_set m1 ho' (labI_size n) (cellI_size c) (labI_40 n) (fun c' hin => h0 c' ((m3 _ _).1 hin)) (by omega)
end Go.Proofs.Ythijmjglpcljcaa.Sy
