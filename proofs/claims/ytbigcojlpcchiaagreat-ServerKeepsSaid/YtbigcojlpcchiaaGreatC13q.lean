/- Layer 13: what puts and deletions come to, in plain words. -/
import Derived.Test.YtbigcojlpcchiaaGreatC13p
namespace Go.Proofs.YtbigcojlpcchiaaGreat.Sy
open Go Go.RowKit
set_option linter.unusedVariables false
set_option linter.unusedSimpArgs false
set_option maxRecDepth 10000
set_option maxHeartbeats 4000000
open Bk (Sto rowsB stoP putS getS delS RightI inB)
theorem in_sizes {s : Sto} (h : RightI s) {l c : ByteArray} (hi : inB s.bs l c) : l.size = 16 ∧ c.size = 40 := by
  obtain ⟨j, hj, h1, h2, h3⟩ := hi
  have hm := h.may j hj
  unfold Bk.mayB at hm
  rw [if_pos h1, h2, h3] at hm
  simp only [Bool.and_eq_true, decide_eq_true_eq] at hm
  omega
theorem get_iff {s : Sto} (h : RightI s) (l : ByteArray) : (getS s l).2 = true ↔ ∃ c, inB s.bs l c := by
  rcases Bk.in_dec s l with ⟨c, hc⟩ | hc
  · rw [Bk.get_in h hc]; exact ⟨fun _ => ⟨c, hc⟩, fun _ => rfl⟩
  · rw [Bk.get_not h hc]; exact ⟨fun e => (by cases e), fun ⟨c, h'⟩ => absurd h' (hc c)⟩
theorem get_none {s : Sto} (h : RightI s) (l : ByteArray) : (getS s l).1 = ⟨#[]⟩ ↔ ∀ c, ¬ inB s.bs l c := by
  rcases Bk.in_dec s l with ⟨c, hc⟩ | hc
  · rw [Bk.get_in h hc]
    refine ⟨fun e => ?_, fun h' => absurd hc (h' c)⟩
    have := (in_sizes h hc).2
    simp only at e
    rw [e] at this
    cases this
  · rw [Bk.get_not h hc]; exact ⟨fun _ => hc, fun _ => rfl⟩
def newN (s : Sto) : List ByteArray → Int
  | [] => 0
  | l :: ls => (if (getS s l).2 = true then 0 else 1) + newN s ls
def hasN (s : Sto) : List ByteArray → Int
  | [] => 0
  | l :: ls => (if (getS s l).2 = true then 1 else 0) + hasN s ls
theorem newN_range (s : Sto) : ∀ ls : List ByteArray, 0 ≤ newN s ls ∧ newN s ls ≤ ls.length
  | [] => by simp [newN]
  | l :: ls => by
    have := newN_range s ls
    rw [newN, List.length_cons]
    split <;> omega
theorem hasN_range (s : Sto) : ∀ ls : List ByteArray, 0 ≤ hasN s ls ∧ hasN s ls ≤ ls.length
  | [] => by simp [hasN]
  | l :: ls => by
    have := hasN_range s ls
    rw [hasN, List.length_cons]
    split <;> omega
theorem newN_congr {s s' : Sto} : ∀ {ls : List ByteArray}, (∀ l ∈ ls, (getS s' l).2 = (getS s l).2) → newN s' ls = newN s ls
  | [], _ => rfl
  | l :: ls, h => by rw [newN, newN, h l List.mem_cons_self, newN_congr fun x hx => h x (List.mem_cons_of_mem _ hx)]
theorem hasN_congr {s s' : Sto} : ∀ {ls : List ByteArray}, (∀ l ∈ ls, (getS s' l).2 = (getS s l).2) → hasN s' ls = hasN s ls
  | [], _ => rfl
  | l :: ls, h => by rw [hasN, hasN, h l List.mem_cons_self, hasN_congr fun x hx => h x (List.mem_cons_of_mem _ hx)]
theorem bool_iff {a b : Bool} (h : a = true ↔ b = true) : a = b := by cases a <;> cases b <;> simp_all
theorem newN_zero {s : Sto} (h : RightI s) : ∀ {ls : List ByteArray}, (∀ l ∈ ls, ∃ c, inB s.bs l c) → newN s ls = 0
  | [], _ => rfl
  | l :: ls, hh => by rw [newN, if_pos ((get_iff h l).2 (hh l List.mem_cons_self)), newN_zero h fun x hx => hh x (List.mem_cons_of_mem _ hx)]; rfl
theorem newN_all {s : Sto} (h : RightI s) : ∀ {ls : List ByteArray}, (∀ l ∈ ls, ∀ c, ¬ inB s.bs l c) → newN s ls = ls.length
  | [], _ => rfl
  | l :: ls, hh => by
    rw [newN, if_neg fun e => by obtain ⟨c, hc⟩ := (get_iff h l).1 e; exact hh l List.mem_cons_self c hc, newN_all h fun x hx => hh x (List.mem_cons_of_mem _ hx), List.length_cons]
    omega
theorem hasN_all {s : Sto} (h : RightI s) : ∀ {ls : List ByteArray}, (∀ l ∈ ls, ∃ c, inB s.bs l c) → hasN s ls = ls.length
  | [], _ => rfl
  | l :: ls, hh => by
    rw [hasN, if_pos ((get_iff h l).2 (hh l List.mem_cons_self)), hasN_all h fun x hx => hh x (List.mem_cons_of_mem _ hx), List.length_cons]
    omega
/-- What puts come to. -/
theorem puts_v : ∀ (ls cs : List ByteArray) (s : Sto), RightI s → (∀ x ∈ ls, x.size = 16) → (∀ x ∈ cs, x.size = 40) → cs.length = ls.length → ls.Nodup → s.many + newN s ls ≤ 2000 →
    RightI (putsV s ls cs) ∧ (putsV s ls cs).many = s.many + newN s ls ∧ ∀ l c, inB (putsV s ls cs).bs l c ↔ (l, c) ∈ ls.zip cs ∨ (l ∉ ls ∧ inB s.bs l c)
  | [], cs, s, h, _, _, _, _, _ => by
    cases cs <;> exact ⟨h, by simp [putsV, newN], fun l c => by simp [putsV]⟩
  | l :: ls, [], s, h, _, _, hl, _, _ => by simp at hl
  | l :: ls, c :: cs, s, h, h16, h40, hlen, hn, hm => by
    rw [List.nodup_cons] at hn
    have hr := newN_range s ls
    rw [newN] at hm
    obtain ⟨_, p2, p3, p4⟩ := put_v h (l := l) (c := c) (by split at hm <;> omega) (h16 l List.mem_cons_self) (h40 c List.mem_cons_self)
    obtain ⟨s1, hs1⟩ : ∃ s1, (putS s l c).1 = s1 := ⟨_, rfl⟩
    rw [hs1] at p2 p3 p4
    have hc : newN s1 ls = newN s ls := newN_congr fun x hx => bool_iff (by
      rw [get_iff p2, get_iff h]
      have hne : x ≠ l := fun e => hn.1 (e ▸ hx)
      refine ⟨fun ⟨c', hc'⟩ => ?_, fun ⟨c', hc'⟩ => ⟨c', (p4 _ _).2 (.inr ⟨hne, hc'⟩)⟩⟩
      rcases (p4 _ _).1 hc' with ⟨e, _⟩ | ⟨_, e⟩
      · exact absurd e hne
      · exact ⟨c', e⟩)
    obtain ⟨q1, q2, q3⟩ := puts_v ls cs s1 p2 (fun x hx => h16 x (List.mem_cons_of_mem _ hx)) (fun x hx => h40 x (List.mem_cons_of_mem _ hx)) (by simpa using hlen) hn.2 (by rw [hc, p3]; split at hm <;> simp_all <;> omega)
    rw [putsV, hs1]
    refine ⟨q1, by rw [q2, hc, p3, newN]; split <;> omega, fun l' c' => ?_⟩
    rw [q3, p4, List.zip_cons_cons, List.mem_cons, List.mem_cons]
    constructor
    · rintro (e | ⟨e1, ⟨rfl, rfl⟩ | ⟨e2, e3⟩⟩)
      · exact .inl (.inr e)
      · exact .inl (.inl rfl)
      · exact .inr ⟨fun e => e.elim e2 e1, e3⟩
    · rintro ((e | e) | ⟨e1, e2⟩)
      · cases e; exact .inr ⟨hn.1, .inl ⟨rfl, rfl⟩⟩
      · exact .inl e
      · exact .inr ⟨fun e => e1 (.inr e), .inr ⟨fun e => e1 (.inl e), e2⟩⟩
/-- What stands under the labels is what is to be put there. -/
def agreeV (s : Sto) (ls cs : List ByteArray) : Prop := ∀ l c c', (l, c) ∈ ls.zip cs → inB s.bs l c' → c' = c
theorem goes_iff {s : Sto} (h : RightI s) : ∀ (ls cs : List ByteArray) (n : Int), (agreeV s ls cs → cs.length = ls.length → goesV s ls cs n = some (n + newN s ls)) ∧ ∀ m, cs.length = ls.length → goesV s ls cs n = some m → agreeV s ls cs ∧ m = n + newN s ls
  | [], cs, n => by
    refine ⟨fun _ _ => by cases cs <;> simp [goesV, newN], fun m _ e => ⟨fun l c c' hm => by simp at hm, ?_⟩⟩
    cases cs <;> (simp [goesV] at e; simp [newN, e])
  | l :: ls, [], n => ⟨fun _ hl => by simp at hl, fun m hl => by simp at hl⟩
  | l :: ls, c :: cs, n => by
    rw [goesV, newN]
    rcases Bk.in_dec s l with ⟨c0, h0⟩ | h0
    · have g := Bk.get_in h h0
      have e1 : ¬ (getS s l).1 = ⟨#[]⟩ := fun e => (get_none h l).1 e c0 h0
      rw [if_neg e1, g, if_pos rfl]
      by_cases e2 : c0 = c
      · rw [if_pos e2]
        subst e2
        obtain ⟨i1, i2⟩ := goes_iff h ls cs n
        refine ⟨fun ha hl => ?_, fun m hl hm => ?_⟩
        · rw [i1 (fun l' c' c'' hm hi => ha l' c' c'' (by rw [List.zip_cons_cons]; exact List.mem_cons_of_mem _ hm) hi) (by simpa using hl)]
          simp
        · obtain ⟨j1, j2⟩ := i2 m (by simpa using hl) hm
          refine ⟨fun l' c' c'' hm hi => ?_, by omega⟩
          rw [List.zip_cons_cons, List.mem_cons] at hm
          rcases hm with e | e
          · cases e; exact Bk.in_unique h hi h0
          · exact j1 _ _ _ e hi
      · rw [if_neg e2]
        exact ⟨fun ha _ => absurd (ha l c c0 (by simp) h0) e2, fun m _ e => by cases e⟩
    · have g := Bk.get_not h h0
      have e1 : (getS s l).1 = ⟨#[]⟩ := (get_none h l).2 h0
      rw [if_pos e1, g, if_neg (by simp)]
      obtain ⟨i1, i2⟩ := goes_iff h ls cs (n + 1)
      refine ⟨fun ha hl => ?_, fun m hl hm => ?_⟩
      · rw [i1 (fun l' c' c'' hm hi => ha l' c' c'' (by rw [List.zip_cons_cons]; exact List.mem_cons_of_mem _ hm) hi) (by simpa using hl)]
        congr 1; omega
      · obtain ⟨j1, j2⟩ := i2 m (by simpa using hl) hm
        refine ⟨fun l' c' c'' hm hi => ?_, by omega⟩
        rw [List.zip_cons_cons, List.mem_cons] at hm
        rcases hm with e | e
        · cases e; exact absurd hi (h0 _)
        · exact j1 _ _ _ e hi
theorem put_same {s : Sto} (h : RightI s) {l c : ByteArray} (hi : inB s.bs l c) : (putS s l c).1 = s := by
  obtain ⟨hl, hc⟩ := in_sizes h hi
  obtain ⟨k, k1, k2, k3, k4, k5, _⟩ := Bk.put_over (c := c) h hl hc hi
  rw [k5]
  have e : ({ Bk.atB s.bs k with cell := c } : Bk.Bkt) = s.bs[k] := by rw [← Bk.atB_get k1, ← k4]
  rw [e, List.set_getElem_self]
theorem puts_same {s : Sto} (h : RightI s) : ∀ (ls cs : List ByteArray), (∀ l c, (l, c) ∈ ls.zip cs → inB s.bs l c) → putsV s ls cs = s
  | [], cs, _ => by cases cs <;> rfl
  | l :: ls, [], _ => rfl
  | l :: ls, c :: cs, hh => by
    rw [putsV, put_same h (hh l c (by simp)), puts_same h ls cs fun l' c' hm => hh l' c' (by rw [List.zip_cons_cons]; exact List.mem_cons_of_mem _ hm)]
/-- What deletions come to. -/
theorem dels_v : ∀ (ls : List ByteArray) (s : Sto) (n : Int), RightI s → ls.Nodup → RightI (delsV s ls n).1 ∧ (delsV s ls n).1.many = s.many - hasN s ls ∧ (delsV s ls n).2 = n + hasN s ls ∧ ∀ l c, inB (delsV s ls n).1.bs l c ↔ l ∉ ls ∧ inB s.bs l c
  | [], s, n, h, _ => ⟨h, by simp [delsV, hasN], by simp [delsV, hasN], fun l c => by simp [delsV]⟩
  | l :: ls, s, n, h, hn => by
    rw [List.nodup_cons] at hn
    have key : ∃ s1 b, delS s l = (s1, b, 0) ∧ RightI s1 ∧ (getS s l).2 = b ∧ s1.many = s.many - (if b = true then 1 else 0) ∧ ∀ l' c', inB s1.bs l' c' ↔ l' ≠ l ∧ inB s.bs l' c' := by
      rcases Bk.in_dec s l with ⟨c0, h0⟩ | h0
      · obtain ⟨s1, e1, e2, e3, _, _, e6⟩ := Bk.del_in h h0
        exact ⟨s1, true, e1, e2, by rw [Bk.get_in h h0], by rw [e3]; simp, e6⟩
      · refine ⟨s, false, Bk.del_not h h0, h, by rw [Bk.get_not h h0], by simp, fun l' c' => ⟨fun e => ⟨fun e' => ?_, e⟩, fun e => e.2⟩⟩
        subst e'
        exact h0 c' e
    obtain ⟨s1, b, e1, e2, e3, e4, e5⟩ := key
    have hc : hasN s1 ls = hasN s ls := hasN_congr fun x hx => bool_iff (by
      rw [get_iff e2, get_iff h]
      have hne : x ≠ l := fun e => hn.1 (e ▸ hx)
      exact ⟨fun ⟨c', hc'⟩ => ⟨c', ((e5 _ _).1 hc').2⟩, fun ⟨c', hc'⟩ => ⟨c', (e5 _ _).2 ⟨hne, hc'⟩⟩⟩)
    obtain ⟨q1, q2, q3, q4⟩ := dels_v ls s1 (if b = true then n + 1 else n) e2 hn.2
    rw [delsV, e1, hasN, e3]
    refine ⟨q1, by simp only; rw [q2, e4, hc]; omega, by simp only; rw [q3, hc]; split <;> omega, fun l' c' => ?_⟩
    simp only
    rw [q4, e5, List.mem_cons]
    exact ⟨fun ⟨a, b, c⟩ => ⟨fun e => e.elim b a, c⟩, fun ⟨a, c⟩ => ⟨fun e => a (.inr e), fun e => a (.inl e), c⟩⟩
theorem dels_none {s : Sto} (h : RightI s) : ∀ (ls : List ByteArray) (n : Int), (∀ l ∈ ls, ∀ c, ¬ inB s.bs l c) → delsV s ls n = (s, n)
  | [], n, _ => rfl
  | l :: ls, n, hh => by
    rw [delsV, Bk.del_not h (hh l List.mem_cons_self)]
    exact dels_none h ls n fun x hx => hh x (List.mem_cons_of_mem _ hx)
theorem puts_app : ∀ (ls cs ls' cs' : List ByteArray) (s : Sto), cs.length = ls.length → putsV s (ls ++ ls') (cs ++ cs') = putsV (putsV s ls cs) ls' cs'
  | [], cs, ls', cs', s, h => by
    have : cs = [] := List.eq_nil_of_length_eq_zero h
    subst this
    rfl
  | l :: ls, [], _, _, _, h => by simp at h
  | l :: ls, c :: cs, ls', cs', s, h => by
    rw [List.cons_append, List.cons_append, putsV, putsV, puts_app ls cs ls' cs' _ (by simpa using h)]
theorem dels_app : ∀ (ls ls' : List ByteArray) (s : Sto) (n : Int), delsV s (ls ++ ls') n = delsV (delsV s ls n).1 ls' (delsV s ls n).2
  | [], ls', s, n => rfl
  | l :: ls, ls', s, n => by rw [List.cons_append, delsV, delsV, dels_app ls ls']
theorem dels_shift : ∀ (ls : List ByteArray) (s : Sto) (n : Int), (delsV s ls n).1 = (delsV s ls 0).1 ∧ (delsV s ls n).2 = n + (delsV s ls 0).2
  | [], s, n => ⟨rfl, by simp [delsV]⟩
  | l :: ls, s, n => by
    rw [delsV, delsV]
    obtain ⟨a1, a2⟩ := dels_shift ls (delS s l).1 (if (delS s l).2.1 = true then n + 1 else n)
    obtain ⟨b1, b2⟩ := dels_shift ls (delS s l).1 (if (delS s l).2.1 = true then 0 + 1 else 0)
    refine ⟨a1.trans b1.symm, ?_⟩
    rw [a2, b2]
    split <;> omega
/-- A server stays right. -/
theorem do_right {s : Sto} {lim k : Int} {ls cs : List ByteArray} (h : rightV s lim = true) : rightV (doV s lim k ls cs).1 lim = true := by
  unfold doV
  by_cases c : rightQ k ls cs = true ∧ rightV s lim = true
  · rw [if_pos c]
    obtain ⟨hq, _⟩ := c
    obtain ⟨f1, f2, f3, f4, f5, f6, f7, g1, _⟩ := right_facts hq
    obtain ⟨hr, l0, l1, l2⟩ := rightV_iff.1 h
    by_cases k1 : k = 1
    · rw [if_pos k1]
      simp only
      unfold putV
      cases hg : goesV s ls cs 0 with
      | none => exact h
      | some m =>
        simp only
        obtain ⟨_, hm⟩ := (goes_iff hr ls cs 0).2 m (g1 k1) hg
        split
        · exact h
        · obtain ⟨q1, q2, _⟩ := puts_v ls cs s hr f3 f4 (g1 k1) f5 (by omega)
          exact rightV_iff.2 ⟨q1, l0, l1, by simp only; omega⟩
    · rw [if_neg k1]
      by_cases k2 : k = 2
      · rw [if_pos k2]; exact h
      · rw [if_neg k2]
        by_cases k3 : k = 3
        · rw [if_pos k3]
          obtain ⟨q1, q2, _⟩ := dels_v ls s 0 hr f5
          have := hasN_range s ls
          exact rightV_iff.2 ⟨q1, l0, l1, by simp only; omega⟩
        · rw [if_neg k3]; exact h
  · rw [if_neg c]; exact h
theorem dels_count {s : Sto} (h : RightI s) {ls : List ByteArray} (hn : ls.Nodup) : 0 ≤ (delsV s ls 0).2 ∧ (delsV s ls 0).2 ≤ ls.length := by
  obtain ⟨_, _, q3, _⟩ := dels_v ls s 0 h hn
  have := hasN_range s ls
  omega
/-- What a server answers may be. -/
theorem do_may (s : Sto) (lim k : Int) (ls cs : List ByteArray) : mayA (doV s lim k ls cs).2.k (doV s lim k ls cs).2.st (doV s lim k ls cs).2.cs (doV s lim k ls cs).2.m (doV s lim k ls cs).2.r = true := by
  unfold doV
  by_cases c : rightQ k ls cs = true ∧ rightV s lim = true
  · rw [if_pos c]
    obtain ⟨hq, h⟩ := c
    obtain ⟨f1, f2, f3, f4, f5, f6, f7, g1, _⟩ := right_facts hq
    obtain ⟨hr, l0, l1, l2⟩ := rightV_iff.1 h
    have hsm := Bk.right_small hr
    by_cases k1 : k = 1
    · rw [if_pos k1]
      have : (putV s lim ls cs).2 = 0 ∨ (putV s lim ls cs).2 = 1 ∨ (putV s lim ls cs).2 = 2 := by
        unfold putV
        split
        · exact .inr (.inr rfl)
        · split
          · exact .inr (.inl rfl)
          · exact .inl rfl
      simp only
      rcases this with e | e | e <;> rw [e] <;> rfl
    · rw [if_neg k1]
      by_cases k2 : k = 2
      · rw [if_pos k2]
        have e1 : (getsV s ls).all cellB = true := List.all_eq_true.2 fun x hx => by
          obtain ⟨l, _, rfl⟩ := List.mem_map.1 hx
          rcases Bk.in_dec s l with ⟨c0, h0⟩ | h0
          · rw [Bk.get_in hr h0]; simp [cellB, (in_sizes hr h0).2]
          · rw [Bk.get_not hr h0]; rfl
        have e2 : (getsV s ls).length ≤ 200 := by unfold getsV; rw [List.length_map]; exact f1
        show mayA 2 0 (getsV s ls) 0 0 = true
        unfold mayA emptyA numB
        rw [e1]
        simp only [Bool.and_eq_true, decide_eq_true_eq]
        exact ⟨⟨by simp, by simp, .inl trivial, by simp, by simp⟩, by simp, by simp, e2, trivial, ⟨by omega, by omega⟩, by omega, by omega⟩
      · rw [if_neg k2]
        by_cases k3 : k = 3
        · rw [if_pos k3]
          have := dels_count hr f5
          show mayA 3 0 [] (delsV s ls 0).2 0 = true
          unfold mayA emptyA numB
          simp only [Bool.and_eq_true, decide_eq_true_eq, List.all_nil, List.length_nil]
          exact ⟨⟨by simp, by simp, .inr trivial, by simp, by simp⟩, by simp, by simp, by simp, trivial, ⟨by omega, by omega⟩, by omega, by omega⟩
        · rw [if_neg k3]
          show mayA 4 0 [] s.many (lim - s.many) = true
          unfold mayA emptyA numB
          simp only [Bool.and_eq_true, decide_eq_true_eq, List.all_nil, List.length_nil]
          exact ⟨⟨by simp, by simp, .inr trivial, by simp, by simp⟩, by simp, by simp, by simp, trivial, ⟨by omega, by omega⟩, by omega, by omega⟩
  · rw [if_neg c]; rfl
theorem do_len (s : Sto) (lim k : Int) (ls cs : List ByteArray) (hs : s.bs.length < 1000000) : (doV s lim k ls cs).1.bs.length < 1000000 := by
  by_cases c : rightV s lim = true
  · have := do_right (k := k) (ls := ls) (cs := cs) c
    exact rightI_small (rightV_iff.1 this).1
  · unfold doV
    rw [if_neg fun h => c h.2]
    exact hs
end Go.Proofs.YtbigcojlpcchiaaGreat.Sy
