/- Layer 13: what is kept, in plain words. -/
import Derived.Test.YtbigcojlpcchiaaGreatC13h
namespace Go.Proofs.YtbigcojlpcchiaaGreat.Sy
open Go Go.RowKit
set_option linter.unusedVariables false
set_option linter.unusedSimpArgs false
set_option maxRecDepth 10000
set_option maxHeartbeats 4000000
open Bk (Sto rowsB stoP putS getS delS RightI inB)
/-- The labels and cells that are in a store, as two lists. -/
structure KeepI (s : Sto) (L C : List ByteArray) : Prop where
  right : RightI s
  len : C.length = L.length
  nodup : L.Nodup
  mem : ∀ l c, inB s.bs l c ↔ (l, c) ∈ L.zip C
  many : s.many = L.length
theorem keep_new {n : Nat} (h : Bk.sizeB n = true) : KeepI (Bk.freshS n) [] [] :=
  ⟨Bk.fresh_right h, rfl, List.nodup_nil, fun l c => ⟨fun hi => absurd hi (Bk.fresh_in n l c), fun h => by simp at h⟩, rfl⟩
theorem zip_at {L C : List ByteArray} {i : Nat} (h1 : i < L.length) (h2 : i < C.length) : (L[i], C[i]) ∈ L.zip C := by
  have hz : i < (L.zip C).length := by rw [List.length_zip]; omega
  rw [← List.getElem_zip (h := hz)]
  exact List.getElem_mem _
theorem keep_at {s : Sto} {L C : List ByteArray} (h : KeepI s L C) {i : Nat} (h1 : i < L.length) : inB s.bs L[i] (C[i]'(by rw [h.len]; exact h1)) :=
  (h.mem _ _).2 (zip_at h1 (by rw [h.len]; exact h1))
theorem keep_not {s : Sto} {L C : List ByteArray} (h : KeepI s L C) {l : ByteArray} (hl : l ∉ L) : ∀ c, ¬ inB s.bs l c := fun c hi => hl (List.of_mem_zip ((h.mem l c).1 hi)).1
theorem keep_put {s : Sto} {L C : List ByteArray} (h : KeepI s L C) {l c : ByteArray} (hl : l ∉ L) (h16 : l.size = 16) (h40 : c.size = 40) (hm : s.many ≤ 2000) : KeepI (putS s l c).1 (L ++ [l]) (C ++ [c]) := by
  obtain ⟨_, p2, p3, p4⟩ := put_v h.right hm h16 h40
  have hg : (getS s l).2 = false := by
    cases e : (getS s l).2 with
    | false => rfl
    | true => obtain ⟨c', hc⟩ := (get_iff h.right l).1 e; exact absurd hc (keep_not h hl c')
  rw [hg] at p3
  refine ⟨p2, by simp [h.len], ?_, fun l' c' => ?_, by rw [p3, List.length_append, h.many]; simp⟩
  · exact List.nodup_append.2 ⟨h.nodup, by simp, fun a ha b hb e => by rw [List.mem_singleton.1 hb] at e; exact hl (e ▸ ha)⟩
  · rw [p4, List.zip_append h.len.symm, List.mem_append, h.mem]
    simp only [List.zip_cons_cons, List.zip_nil_right, List.mem_singleton, Prod.mk.injEq]
    constructor
    · rintro (e | ⟨_, e⟩)
      · exact .inr e
      · exact .inl e
    · rintro (e | e)
      · refine .inr ⟨fun e' => hl (e' ▸ (List.of_mem_zip e).1), e⟩
      · exact .inl e
theorem keep_del {s : Sto} {L C : List ByteArray} (h : KeepI s L C) {i : Nat} (h1 : i < L.length) : KeepI (delS s L[i]).1 (L.take i ++ L.drop (i + 1)) (C.take i ++ C.drop (i + 1)) ∧ (delS s L[i]).2.1 = true := by
  have hi := keep_at h h1
  obtain ⟨s', e1, e2, e3, _, _, e6⟩ := Bk.del_in h.right hi
  rw [e1]
  have hlc : i < C.length := by rw [h.len]; exact h1
  refine ⟨⟨e2, ?_, ?_, fun l c => ?_, ?_⟩, rfl⟩
  · simp only [List.length_append, List.length_take, List.length_drop]; rw [h.len]
  · rw [← List.eraseIdx_eq_take_drop_succ]; exact h.nodup.sublist (List.eraseIdx_sublist _ _)
  · simp only
    rw [e6, h.mem]
    have hz : (L.take i ++ L.drop (i + 1)).zip (C.take i ++ C.drop (i + 1)) = (L.zip C).eraseIdx i := by
      rw [List.zip_append (by simp only [List.length_take]; omega), List.eraseIdx_eq_take_drop_succ, List.zip_eq_zipWith, List.zip_eq_zipWith, List.zip_eq_zipWith, List.take_zipWith, List.drop_zipWith]
    rw [hz]
    constructor
    · rintro ⟨hne, hm⟩
      obtain ⟨j, hj, e⟩ := List.getElem_of_mem hm
      have hj' : j < L.length := by rw [List.length_zip] at hj; omega
      refine List.mem_eraseIdx_iff_getElem?.2 ⟨j, fun ej => ?_, by rw [List.getElem?_eq_getElem hj, e]⟩
      subst ej
      rw [List.getElem_zip] at e
      exact hne (by rw [Prod.mk.injEq] at e; exact e.1.symm)
    · intro hm
      obtain ⟨j, hne, e⟩ := List.mem_eraseIdx_iff_getElem?.1 hm
      obtain ⟨hj, e⟩ := List.getElem?_eq_some_iff.1 e
      have hj' : j < L.length := by rw [List.length_zip] at hj; omega
      refine ⟨fun el => ?_, by rw [← e]; exact List.getElem_mem _⟩
      rw [List.getElem_zip, Prod.mk.injEq] at e
      have := (List.getElem?_inj (j := i) hj' h.nodup).1 (by rw [List.getElem?_eq_getElem hj', List.getElem?_eq_getElem h1, e.1, el])
      exact hne this
  · simp only [List.length_append, List.length_take, List.length_drop]
    rw [e3, h.many]
    omega
theorem newN_take (s : Sto) : ∀ (ls : List ByteArray) (i : Nat), newN s (ls.take i) ≤ newN s ls
  | [], i => by simp
  | l :: ls, 0 => by rw [List.take_zero]; exact (newN_range s _).1
  | l :: ls, i + 1 => by
    have := newN_take s ls i
    rw [List.take_succ_cons, newN, newN]
    omega
/-- The store, when so many labels of a request are done. -/
def keptS (s : Sto) (k st : Int) (ls cs : List ByteArray) (i : Nat) : Sto := if k = 1 ∧ st = 0 then putsV s (ls.take i) (cs.take i) else if k = 3 then (delsV s (ls.take i) 0).1 else s
def keptM (s : Sto) (k : Int) (ls : List ByteArray) (i : Nat) : Int := if k = 3 then (delsV s (ls.take i) 0).2 else 0
theorem kept_zero (s : Sto) (k st : Int) (ls cs : List ByteArray) : keptS s k st ls cs 0 = s ∧ keptM s k ls 0 = 0 := by
  unfold keptS keptM
  refine ⟨?_, ?_⟩
  · split
    · rfl
    · split <;> rfl
  · split <;> rfl
theorem take_one {ls : List ByteArray} {i : Nat} (h : i < ls.length) : ls.take (i + 1) = ls.take i ++ [ls[i]] := by
  rw [List.take_add_one, List.getElem?_eq_getElem h]; rfl
theorem kept_put {s : Sto} {ls cs : List ByteArray} {i : Nat} (h : i < ls.length) (hlen : cs.length = ls.length) : keptS s 1 0 ls cs (i + 1) = (putS (keptS s 1 0 ls cs i) ls[i] (cs[i]'(by omega))).1 := by
  unfold keptS
  rw [if_pos (by simp), if_pos (by simp), take_one h, take_one (by omega), puts_app _ _ _ _ _ (by simp only [List.length_take]; omega)]
  rfl
theorem kept_del {s : Sto} {st : Int} {ls cs : List ByteArray} {i : Nat} (h : i < ls.length) : keptS s 3 st ls cs (i + 1) = (delS (keptS s 3 st ls cs i) ls[i]).1 ∧ keptM s 3 ls (i + 1) = keptM s 3 ls i + (if (delS (keptS s 3 st ls cs i) ls[i]).2.1 = true then 1 else 0) := by
  unfold keptS keptM
  rw [if_neg (by omega), if_pos rfl, if_neg (by omega), if_pos rfl, if_pos rfl, if_pos rfl, take_one h, dels_app]
  obtain ⟨a1, a2⟩ := dels_shift [ls[i]] (delsV s (ls.take i) 0).1 (delsV s (ls.take i) 0).2
  rw [a1, a2]
  simp only [delsV]
  refine ⟨trivial, ?_⟩
  split <;> simp
theorem kept_same {s : Sto} {k st : Int} {ls cs : List ByteArray} (h1 : ¬ (k = 1 ∧ st = 0)) (h3 : k ≠ 3) (i : Nat) : keptS s k st ls cs i = s ∧ keptM s k ls i = 0 := by
  unfold keptS keptM
  rw [if_neg h1, if_neg h3, if_neg h3]
  exact ⟨rfl, rfl⟩
theorem kept_end {s : Sto} {n k : Int} {ls cs : List ByteArray} (hq : rightQ k ls cs = true) (hv : rightV s n = true) : keptS s k (doV s n k ls cs).2.st ls cs ls.length = (doV s n k ls cs).1 ∧ (k = 3 → (doV s n k ls cs).2.m = keptM s k ls ls.length) ∧ ((doV s n k ls cs).2.st ≠ 0 → (doV s n k ls cs).1 = s) ∧ (k = 4 → (doV s n k ls cs).2.m = s.many ∧ (doV s n k ls cs).2.r = n - s.many ∧ (doV s n k ls cs).1 = s) ∧ (k = 2 → (doV s n k ls cs).2.cs = getsV s ls) ∧ (k ≠ 1 → (doV s n k ls cs).2.st = 0) := by
  obtain ⟨f1, f2, f3, f4, f5, f6, f7, g1, _⟩ := right_facts hq
  have e := do_of hq hv
  have ht : ls.take ls.length = ls := List.take_length
  by_cases k1 : k = 1
  · subst k1
    have hc : cs.take ls.length = cs := by rw [← g1 rfl]; exact List.take_length
    rw [if_pos rfl] at e
    rcases put_cases hq hv with h | h | ⟨h, _, _⟩
    · rw [h] at e
      rw [e]
      exact ⟨by unfold keptS; rw [if_neg (by simp), if_neg (by omega)], fun h => by omega, fun _ => rfl, fun h => by omega, fun h => by omega, fun h => absurd rfl h⟩
    · rw [h] at e
      rw [e]
      exact ⟨by unfold keptS; rw [if_neg (by simp), if_neg (by omega)], fun h => by omega, fun _ => rfl, fun h => by omega, fun h => by omega, fun h => absurd rfl h⟩
    · rw [h] at e
      rw [e]
      exact ⟨by unfold keptS; rw [if_pos (by simp), ht, hc], fun h => by omega, fun h => absurd rfl h, fun h => by omega, fun h => by omega, fun h => absurd rfl h⟩
  · rw [if_neg k1] at e
    by_cases k2 : k = 2
    · rw [if_pos k2] at e
      rw [e]
      exact ⟨by unfold keptS; rw [if_neg (fun h => k1 h.1), if_neg (by omega)], fun h => by omega, fun _ => rfl, fun h => by omega, fun _ => rfl, fun _ => rfl⟩
    · rw [if_neg k2] at e
      by_cases k3 : k = 3
      · rw [if_pos k3] at e
        rw [e]
        exact ⟨by unfold keptS; rw [if_neg (fun h => k1 h.1), if_pos k3, ht], fun _ => by unfold keptM; rw [if_pos k3, ht], fun h => absurd rfl h, fun h => by omega, fun h => by omega, fun _ => rfl⟩
      · rw [if_neg k3] at e
        rw [e]
        exact ⟨by unfold keptS; rw [if_neg (fun h => k1 h.1), if_neg k3], fun h => absurd h k3, fun _ => rfl, fun _ => ⟨rfl, rfl, rfl⟩, fun h => absurd h k2, fun _ => rfl⟩
/-- What stands under a label of a put that is done is what is put there. -/
theorem kept_agree {s : Sto} {n : Int} {ls cs : List ByteArray} (hq : rightQ 1 ls cs = true) (hv : rightV s n = true) (hst : (doV s n 1 ls cs).2.st = 0) {i : Nat} (h : i < ls.length) {c : ByteArray} (hi : inB (keptS s 1 0 ls cs i).bs ls[i] c) : c = cs[i]'(by have := (right_facts hq).2.2.2.2.2.2.2.1 rfl; omega) := by
  obtain ⟨f1, f2, f3, f4, f5, f6, f7, g1, _⟩ := right_facts hq
  have hlen := g1 rfl
  obtain ⟨hr, l0, l1, l2⟩ := rightV_iff.1 hv
  have e := do_of hq hv
  rw [if_pos rfl] at e
  rcases put_cases hq hv with h' | h' | ⟨_, ha, hm⟩
  · rw [h'] at e; rw [e] at hst; simp at hst
  · rw [h'] at e; rw [e] at hst; simp at hst
  · have hnn := newN_take s ls i
    obtain ⟨_, _, q3⟩ := puts_v (ls.take i) (cs.take i) s hr (fun x hx => f3 x (List.mem_of_mem_take hx)) (fun x hx => f4 x (List.mem_of_mem_take hx)) (by simp only [List.length_take]; omega) (f5.sublist (List.take_sublist _ _)) (by omega)
    unfold keptS at hi
    rw [if_pos (by simp), q3] at hi
    have hno : ls[i] ∉ ls.take i := fun hm' => by
      obtain ⟨j, hj, ej⟩ := List.getElem_of_mem hm'
      rw [List.length_take] at hj
      rw [List.getElem_take] at ej
      have := (List.getElem?_inj (j := i) (by omega : j < ls.length) f5).1 (by rw [List.getElem?_eq_getElem (by omega), List.getElem?_eq_getElem h, ej])
      omega
    rcases hi with hi | ⟨_, hi⟩
    · exact absurd (List.of_mem_zip hi).1 hno
    · exact ha _ _ c (zip_at h (by omega)) hi
/-! One label of a request. -/
section
variable {s : Sto} {n K : Int} {ls cs L C : List ByteArray} {i : Nat}
theorem kept_many (hq : rightQ 1 ls cs = true) (hv : rightV s n = true) (hst : (doV s n 1 ls cs).2.st = 0) (i : Nat) : (keptS s 1 0 ls cs i).many ≤ 2000 := by
  obtain ⟨f1, f2, f3, f4, f5, f6, f7, g1, _⟩ := right_facts hq
  have hlen := g1 rfl
  obtain ⟨hr, l0, l1, l2⟩ := rightV_iff.1 hv
  have e := do_of hq hv
  rw [if_pos rfl] at e
  rcases put_cases hq hv with h' | h' | ⟨_, ha, hm⟩
  · rw [h'] at e; rw [e] at hst; simp at hst
  · rw [h'] at e; rw [e] at hst; simp at hst
  · have hnn := newN_take s ls i
    obtain ⟨_, q2, _⟩ := puts_v (ls.take i) (cs.take i) s hr (fun x hx => f3 x (List.mem_of_mem_take hx)) (fun x hx => f4 x (List.mem_of_mem_take hx)) (by simp only [List.length_take]; omega) (f5.sublist (List.take_sublist _ _)) (by omega)
    unfold keptS
    rw [if_pos (by simp), q2]
    omega
theorem keep_step_put (hq : rightQ 1 ls cs = true) (hv : rightV s n = true) (hst : (doV s n 1 ls cs).2.st = 0) (h : i < ls.length) (hc : i < cs.length) (hk : KeepI (keptS s 1 0 ls cs i) L C) (hx : ls[i] ∉ L) : KeepI (keptS s 1 0 ls cs (i + 1)) (L ++ [ls[i]]) (C ++ [cs[i]]) := by
  obtain ⟨f1, f2, f3, f4, f5, f6, f7, g1, _⟩ := right_facts hq
  rw [kept_put h (g1 rfl)]
  exact keep_put hk hx (f3 _ (List.getElem_mem _)) (f4 _ (List.getElem_mem _)) (kept_many hq hv hst i)
theorem keep_step_same (hq : rightQ 1 ls cs = true) (hv : rightV s n = true) (hst : (doV s n 1 ls cs).2.st = 0) (h : i < ls.length) (hc : i < cs.length) (hk : KeepI (keptS s 1 0 ls cs i) L C) {p : Nat} (hp : p < L.length) (hx : L[p] = ls[i]) : KeepI (keptS s 1 0 ls cs (i + 1)) L C ∧ C[p]'(by rw [hk.len]; exact hp) = cs[i] := by
  obtain ⟨f1, f2, f3, f4, f5, f6, f7, g1, _⟩ := right_facts hq
  have hi := keep_at hk hp
  rw [hx] at hi
  have e := kept_agree hq hv hst h hi
  rw [kept_put h (g1 rfl)]
  rw [e] at hi
  rw [put_same hk.right hi]
  exact ⟨hk, e⟩
theorem keep_step_del {st : Int} (h : i < ls.length) (hk : KeepI (keptS s 3 st ls cs i) L C) {p : Nat} (hp : p < L.length) (hx : L[p] = ls[i]) : KeepI (keptS s 3 st ls cs (i + 1)) (L.take p ++ L.drop (p + 1)) (C.take p ++ C.drop (p + 1)) ∧ keptM s 3 ls (i + 1) = keptM s 3 ls i + 1 := by
  obtain ⟨e1, e2⟩ := kept_del (s := s) (st := st) (cs := cs) h
  obtain ⟨d1, d2⟩ := keep_del hk hp
  rw [hx] at d1 d2
  rw [e1, e2, if_pos d2]
  exact ⟨d1, rfl⟩
theorem keep_step_miss {st : Int} (h : i < ls.length) (hk : KeepI (keptS s 3 st ls cs i) L C) (hx : ls[i] ∉ L) : KeepI (keptS s 3 st ls cs (i + 1)) L C ∧ keptM s 3 ls (i + 1) = keptM s 3 ls i := by
  obtain ⟨e1, e2⟩ := kept_del (s := s) (st := st) (cs := cs) h
  have hno := keep_not hk hx
  obtain ⟨q1, q2, q3, q4⟩ := dels_v [ls[i]] (keptS s 3 st ls cs i) 0 hk.right (by simp)
  have hg : (getS (keptS s 3 st ls cs i) ls[i]).2 = false := by rw [Bk.get_not hk.right hno]
  have hN : hasN (keptS s 3 st ls cs i) [ls[i]] = 0 := by simp [hasN, hg]
  rw [hN] at q2 q3
  simp only [delsV] at q1 q2 q3 q4
  have hb : (delS (keptS s 3 st ls cs i) ls[i]).2.1 = false := by
    cases e : (delS (keptS s 3 st ls cs i) ls[i]).2.1 with
    | false => rfl
    | true => rw [e] at q3; simp at q3
  rw [e1, e2, hb]
  refine ⟨⟨q1, hk.len, hk.nodup, fun l c => ?_, by rw [q2, hk.many]; omega⟩, by simp⟩
  rw [q4, ← hk.mem]
  refine ⟨fun h => h.2, fun h => ⟨fun hm => ?_, h⟩⟩
  rw [List.mem_singleton.1 hm] at h
  exact hno c h
theorem keep_step_none {st : Int} (h1 : ¬ (K = 1 ∧ st = 0)) (h3 : K ≠ 3) (hk : KeepI (keptS s K st ls cs i) L C) : KeepI (keptS s K st ls cs (i + 1)) L C ∧ keptM s K ls (i + 1) = keptM s K ls i := by
  obtain ⟨a1, a2⟩ := kept_same (s := s) (ls := ls) (cs := cs) h1 h3 i
  obtain ⟨b1, b2⟩ := kept_same (s := s) (ls := ls) (cs := cs) h1 h3 (i + 1)
  rw [a1] at hk
  rw [b1, b2, a2]
  exact ⟨hk, rfl⟩
theorem keep_get (hk : KeepI s L C) {x : ByteArray} : (∀ (p : Nat) (hp : p < L.length), L[p] = x → (getS s x).1 = C[p]'(by rw [hk.len]; exact hp)) ∧ (x ∉ L → (getS s x).1 = ⟨#[]⟩) := by
  refine ⟨fun p hp hx => ?_, fun hx => ?_⟩
  · have hi := keep_at hk hp
    rw [hx] at hi
    rw [Bk.get_in hk.right hi]
  · rw [Bk.get_not hk.right (keep_not hk hx)]
end
def foundI (L : List ByteArray) (x : ByteArray) (j : Nat) (a : Int) : Prop := (a = -1 ∧ x ∉ L.take j) ∨ ∃ p : Nat, ∃ h : p < L.length, a = p ∧ p < j ∧ L[p] = x
theorem found_step {L : List ByteArray} {x : ByteArray} {j : Nat} {a : Int} (h : foundI L x j a) (hj : j < L.length) : foundI L x (j + 1) (if L[j] = x then (j : Int) else a) := by
  by_cases e : L[j] = x
  · rw [if_pos e]
    exact .inr ⟨j, hj, rfl, by omega, e⟩
  · rw [if_neg e]
    rcases h with ⟨h1, h2⟩ | ⟨p, h1, h2, h3, h4⟩
    · refine .inl ⟨h1, fun hm => ?_⟩
      rw [take_one hj] at hm
      rcases List.mem_append.1 hm with h | h
      · exact h2 h
      · exact e (List.mem_singleton.1 h).symm
    · exact .inr ⟨p, h1, h2, by omega, h4⟩
theorem keptM_ne {s : Sto} {K : Int} {ls : List ByteArray} (h : K ≠ 3) (i : Nat) : keptM s K ls i = 0 := by unfold keptM; rw [if_neg h]
theorem keptM_range {s : Sto} {K : Int} {ls : List ByteArray} (hr : RightI s) (hn : ls.Nodup) (i : Nat) : 0 ≤ keptM s K ls i ∧ keptM s K ls i ≤ ls.length := by
  unfold keptM
  split
  · obtain ⟨_, _, q3, _⟩ := dels_v (ls.take i) s 0 hr (hn.sublist (List.take_sublist _ _))
    rw [q3]
    have := hasN_range s (ls.take i)
    have := List.length_take_le' i ls
    omega
  · omega
end Go.Proofs.YtbigcojlpcchiaaGreat.Sy
