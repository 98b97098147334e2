/- Layer 16: words, in plain words: what a text's words are; sets of words; the law's texts. -/
import Derived.Test.YtipolblhiljoiaaSySrt
namespace Go.Proofs.Ytipolblhiljoiaa.Sy
open Go Go.RowKit
set_option linter.unusedVariables false
set_option linter.unusedSimpArgs false
theorem wba_ext {a b : ByteArray} (h : a.data.toList = b.data.toList) : a = b := by
  cases a; cases b; simp only [ByteArray.mk.injEq]; exact Array.toList_inj.1 h
theorem wtoList_loop (s : ByteArray) : ∀ (d i : Nat) (r : List UInt8), s.size - i = d → ByteArray.toList.loop s i r = r.reverse ++ s.data.toList.drop i
  | 0, i, r, h => by
    unfold ByteArray.toList.loop
    rw [if_neg (by omega), List.drop_eq_nil_of_le (by rw [Array.length_toList]; show s.size ≤ i; omega), List.append_nil]
  | d + 1, i, r, h => by
    unfold ByteArray.toList.loop
    have hi : i < s.data.toList.length := by rw [Array.length_toList]; show i < s.size; omega
    rw [if_pos (by omega), wtoList_loop s d _ _ (by omega), List.drop_eq_getElem_cons hi, List.reverse_cons, List.append_assoc]
    congr 2
    have hi' : i < s.data.size := by simpa using hi
    simp only [List.reverse_nil, List.nil_append, List.singleton_append, Array.getElem_toList, List.cons.injEq, and_true, ByteArray.get!]
    exact getElem!_pos s.data i hi'
theorem wtoList_data (s : ByteArray) : s.toList = s.data.toList := by
  unfold ByteArray.toList
  rw [wtoList_loop s _ 0 [] rfl]; rfl
theorem wtoList_inj {a b : ByteArray} (h : a.toList = b.toList) : a = b := wba_ext (by rw [← wtoList_data, ← wtoList_data, h])
/-! Bytes of texts. -/
abbrev bytesW (s : ByteArray) : List Int := bytesI s
def Byte (b : Int) : Prop := 0 ≤ b ∧ b ≤ 255
theorem bytesW_append (a b : ByteArray) : bytesW (a ++ b) = bytesW a ++ bytesW b := by simp [bytesW, bytesI, ByteArray.data_append]
theorem bytesW_byte (s : ByteArray) : ∀ b ∈ bytesW s, Byte b := by
  intro b hb
  obtain ⟨c, _, rfl⟩ := List.mem_map.1 hb
  have := c.toNat_lt
  exact ⟨by omega, by omega⟩
theorem strOf_bytesW (s : ByteArray) : strOfNums (bytesW s) = s := by
  apply wba_ext
  simp only [strOfNums, bytesW, bytesI, List.map_map]
  rw [List.map_congr_left (g := id)]
  · simp
  · intro b _; simp
theorem bytesW_strOf {xs : List Int} (h : ∀ b ∈ xs, Byte b) : bytesW (strOfNums xs) = xs := by
  simp only [strOfNums, bytesW, bytesI, List.map_map]
  rw [List.map_congr_left (g := id)]
  · simp
  · intro b hb
    obtain ⟨h0, h1⟩ := h b hb
    simp only [Function.comp, id]
    rw [UInt8.toNat_ofNat']
    omega
theorem strOf_size (xs : List Int) : (strOfNums xs).size = xs.length := by simp [strOfNums, ByteArray.size]
/-! Signs. -/
def signOf (b : Int) : Int := if 65 ≤ b ∧ b ≤ 90 then b + 32 else if (97 ≤ b ∧ b ≤ 122) ∨ (48 ≤ b ∧ b ≤ 57) then b else 0
def wstep (st : List Int × List ByteArray) (b : Int) : List Int × List ByteArray :=
  if signOf b = 0 then ([], if 2 ≤ st.1.length then st.2 ++ [strOfNums (st.1.take 20)] else st.2) else (st.1 ++ [signOf b], st.2)
def wscan (xs : List Int) : List Int × List ByteArray := xs.foldl wstep ([], [])
def wordsOf (s : ByteArray) : List ByteArray := (wscan (bytesW s ++ [0])).2
theorem wscan_snoc (xs : List Int) (b : Int) : wscan (xs ++ [b]) = wstep (wscan xs) b := by simp [wscan]
theorem wstep_len (st : List Int × List ByteArray) (b : Int) : (wstep st b).1.length ≤ st.1.length + 1 ∧ (wstep st b).2.length ≤ st.2.length + 1 := by
  unfold wstep
  by_cases h : signOf b = 0
  · rw [if_pos h]
    refine ⟨by simp, ?_⟩
    simp only
    split
    · simp
    · omega
  · rw [if_neg h]; simp
theorem wscan_len : ∀ (n : Nat) (xs : List Int), (wscan (xs.take n)).1.length ≤ n ∧ (wscan (xs.take n)).2.length ≤ n
  | 0, xs => by simp [wscan]
  | n + 1, xs => by
    by_cases h : n < xs.length
    · rw [List.take_succ_eq_append_getElem h, wscan_snoc]
      have := wscan_len n xs
      have h2 := wstep_len (wscan (xs.take n)) xs[n]
      omega
    · rw [List.take_of_length_le (by omega)]
      have := wscan_len n xs
      rw [List.take_of_length_le (by omega)] at this
      omega

def Good (c : Int) : Prop := signOf c = c ∧ 48 ≤ c ∧ c ≤ 122
theorem signOf_good {b : Int} (h : signOf b ≠ 0) : Good (signOf b) := by
  unfold Good signOf at *
  repeat' split
  all_goals first | omega | (exfalso; omega) | skip
  all_goals (split at h <;> (try split at h) <;> omega)
theorem good_byte {c : Int} (h : Good c) : Byte c := ⟨by have := h.2.1; omega, by have := h.2.2; omega⟩
def greatB (b : Int) : Int := if 97 ≤ b ∧ b ≤ 122 then b - 32 else b
theorem signOf_great (b : Int) : signOf (greatB b) = signOf b := by
  unfold signOf greatB
  repeat' split
  all_goals omega

/-! The scan. -/
def flush (p : List Int) : List ByteArray := if 2 ≤ p.length then [strOfNums (p.take 20)] else []
theorem wstep_eq (st : List Int × List ByteArray) (b : Int) : wstep st b = if signOf b = 0 then ([], st.2 ++ flush st.1) else (st.1 ++ [signOf b], st.2) := by
  unfold wstep flush
  split
  · split <;> simp
  · rfl
theorem foldl_sign : ∀ (xs ys : List Int) (st : List Int × List ByteArray), xs.map signOf = ys.map signOf → xs.foldl wstep st = ys.foldl wstep st
  | [], [], st, _ => rfl
  | [], y :: ys, st, h => by simp at h
  | x :: xs, [], st, h => by simp at h
  | x :: xs, y :: ys, st, h => by
    simp only [List.map_cons, List.cons.injEq] at h
    simp only [List.foldl_cons]
    rw [foldl_sign xs ys _ h.2, wstep_eq, wstep_eq st y, h.1]
def GoodWord (w : ByteArray) : Prop := 2 ≤ w.size ∧ w.size ≤ 20 ∧ ∀ c ∈ bytesW w, Good c
theorem flush_good {p : List Int} (h : ∀ c ∈ p, Good c) : ∀ w ∈ flush p, GoodWord w := by
  intro w hw
  unfold flush at hw
  split at hw
  · obtain rfl := List.mem_singleton.1 hw
    have hg : ∀ c ∈ p.take 20, Good c := fun c hc => h c (List.mem_of_mem_take hc)
    refine ⟨?_, ?_, ?_⟩
    · rw [strOf_size, List.length_take]; omega
    · rw [strOf_size, List.length_take]; omega
    · rw [bytesW_strOf (fun c hc => good_byte (hg c hc))]; exact hg
  · simp at hw
theorem foldl_good : ∀ (xs : List Int) (st : List Int × List ByteArray), (∀ c ∈ st.1, Good c) → (∀ w ∈ st.2, GoodWord w) → (∀ c ∈ (xs.foldl wstep st).1, Good c) ∧ ∀ w ∈ (xs.foldl wstep st).2, GoodWord w
  | [], st, h1, h2 => ⟨h1, h2⟩
  | x :: xs, st, h1, h2 => by
    simp only [List.foldl_cons]
    refine foldl_good xs _ ?_ ?_
    · rw [wstep_eq]
      split
      · simp
      · rename_i hs
        intro c hc
        rcases List.mem_append.1 hc with h | h
        · exact h1 c h
        · rw [List.mem_singleton.1 h]; exact signOf_good hs
    · rw [wstep_eq]
      split
      · intro w hw
        rcases List.mem_append.1 hw with h | h
        · exact h2 w h
        · exact flush_good h1 w h
      · exact h2
theorem wordsOf_eq (s : ByteArray) : wordsOf s = ((bytesW s ++ [0]).foldl wstep ([], [])).2 := by
  rfl
theorem wordsOf_good (s : ByteArray) : ∀ w ∈ wordsOf s, GoodWord w := by
  rw [wordsOf_eq]
  exact (foldl_good _ _ (by simp) (by simp)).2
theorem wordsOf_length (s : ByteArray) : (wordsOf s).length ≤ s.size + 1 := by
  have := (wscan_len (bytesW s ++ [0]).length (bytesW s ++ [0])).2
  rw [List.take_length, List.length_append, bytesI_length] at this
  exact this
theorem wordsOf_sign {a b : ByteArray} (h : (bytesW a).map signOf = (bytesW b).map signOf) : wordsOf a = wordsOf b := by
  rw [wordsOf_eq, wordsOf_eq, foldl_sign _ (bytesW b ++ [0]) _ (by rw [List.map_append, List.map_append, h])]
theorem foldl_word : ∀ (cs : List Int) (p : List Int) (acc : List ByteArray), (∀ c ∈ cs, Good c) → cs.foldl wstep (p, acc) = (p ++ cs, acc)
  | [], p, acc, _ => by simp
  | c :: cs, p, acc, h => by
    have hc := h c List.mem_cons_self
    simp only [List.foldl_cons]
    rw [wstep_eq, if_neg (by have := hc.1; have := hc.2.1; omega), hc.1, foldl_word cs _ acc (fun d hd => h d (List.mem_cons_of_mem _ hd))]
    simp
theorem flush_word {w : ByteArray} (h : GoodWord w) : flush (bytesW w) = [w] := by
  unfold flush
  rw [if_pos (by rw [bytesI_length]; exact h.1), List.take_of_length_le (by rw [bytesI_length]; exact h.2.1), strOf_bytesW]
/-- Words, put together with two blanks ahead of each. -/
def joinB (ws : List ByteArray) : List Int := ws.flatMap fun w => 32 :: 32 :: bytesW w
theorem foldl_join : ∀ (ws : List ByteArray) (p : List Int) (acc : List ByteArray), (∀ w ∈ ws, GoodWord w) → ((joinB ws ++ [0]).foldl wstep (p, acc)).2 = acc ++ flush p ++ ws
  | [], p, acc, _ => by
    simp only [joinB, List.flatMap_nil, List.nil_append, List.foldl_cons, List.foldl_nil]
    rw [wstep_eq, if_pos (by decide)]
    simp
  | w :: ws, p, acc, h => by
    have hw := h w List.mem_cons_self
    have e : joinB (w :: ws) ++ [0] = 32 :: 32 :: (bytesW w ++ (joinB ws ++ [0])) := by simp [joinB]
    rw [e]
    simp only [List.foldl_cons, List.foldl_append]
    have e1 : wstep (p, acc) 32 = ([], acc ++ flush p) := by rw [wstep_eq, if_pos (by decide)]
    have e2 : wstep ([], acc ++ flush p) 32 = ([], acc ++ flush p) := by rw [wstep_eq, if_pos (by decide)]; simp [flush]
    rw [e1, e2, foldl_word _ _ _ hw.2.2, List.nil_append]
    have ih := foldl_join ws (bytesW w) (acc ++ flush p) (fun v hv => h v (List.mem_cons_of_mem _ hv))
    rw [List.foldl_append] at ih
    refine Eq.trans ih ?_
    rw [flush_word hw]
    simp

def mayOf (w : ByteArray) : Bool := decide (∀ c ∈ bytesW w, c ≠ 0 ∧ signOf c = c) && (decide ((w.size : Int) ≥ 2) && decide ((w.size : Int) ≤ 20))
theorem may_good {w : ByteArray} (h : GoodWord w) : mayOf w = true := by
  unfold mayOf
  have h1 := h.1; have h2 := h.2.1
  simp only [Bool.and_eq_true, decide_eq_true_eq]
  exact ⟨fun c hc => ⟨by have := (h.2.2 c hc).2.1; omega, (h.2.2 c hc).1⟩, by omega, by omega⟩
/-! Sets. -/
def bl (s : ByteArray) : List UInt8 := s.data.toList
def lb (l : List UInt8) : ByteArray := ⟨l.toArray⟩
theorem lb_bl (s : ByteArray) : lb (bl s) = s := by cases s; simp [lb, bl]
theorem bl_lb (l : List UInt8) : bl (lb l) = l := by simp [lb, bl]
def sorted (l : List (List UInt8)) : List (List UInt8) := l.mergeSort fun x y => decide (x ≤ y)
def onceOf (l : List ByteArray) : List ByteArray := (Lib.compact (sorted (l.map bl))).map lb
theorem onceOf_eq (l : List ByteArray) : compactB (sortB l) = onceOf l := by
  unfold compactB sortB onceOf sorted
  rw [ofB_toB]; rfl
def setOf (s : ByteArray) : List ByteArray := onceOf (wordsOf s)
theorem onceOf_nil : onceOf [] = [] := by simp [onceOf, sorted, Lib.compact, Lib.compactUpTo]
abbrev LB := List UInt8
theorem lb_inj {a b : LB} (h : lb a = lb b) : a = b := by rw [← bl_lb a, ← bl_lb b, h]
theorem bl_inj {a b : ByteArray} (h : bl a = bl b) : a = b := by rw [← lb_bl a, ← lb_bl b, h]
theorem bl_toList (s : ByteArray) : s.toList = bl s := wtoList_data s
/-- The order of texts that the code uses is the order of their bytes' lists. -/
theorem less_lt : ∀ a b : LB, Op.bytesLess a b = decide (a < b)
  | [], [] => rfl
  | [], y :: b => by simp [Op.bytesLess]
  | x :: a, [] => by simp [Op.bytesLess]
  | x :: a, y :: b => by
    rw [Bool.eq_iff_iff]
    simp only [Op.bytesLess, less_lt a b, Bool.or_eq_true, Bool.and_eq_true, decide_eq_true_eq, beq_iff_eq, List.cons_lt_cons_iff]

theorem sorted_perm (l : List LB) : (sorted l).Perm l := List.mergeSort_perm _ _
theorem sorted_le (l : List LB) : (sorted l).Pairwise (· ≤ ·) := by
  have h := List.pairwise_mergeSort (le := fun x y : LB => decide (x ≤ y)) (fun a b c h1 h2 => by
    simp only [decide_eq_true_eq] at *; exact List.le_trans h1 h2) (fun a b => by
    rcases List.le_total a b with h | h <;> simp [h]) l
  exact h.imp (fun h => by simpa using h)

theorem upTo_zero (d : Array LB) : Lib.compactUpTo d 0 = [] := rfl
theorem upTo_mem (d : Array LB) (hd : ∀ i j, i < j → j < d.size → d[i]! ≤ d[j]!) : ∀ m, m ≤ d.size → ∀ x, x ∈ Lib.compactUpTo d m ↔ ∃ j, j < m ∧ d[j]! = x
  | 0, _, x => by simp [upTo_zero]
  | m + 1, hm, x => by
    rw [Lib.compactUpTo_succ, List.mem_append, upTo_mem d hd m (by omega) x]
    constructor
    · rintro (⟨j, h1, h2⟩ | h)
      · exact ⟨j, by omega, h2⟩
      · split at h
        · exact ⟨m, by omega, (List.mem_singleton.1 h).symm⟩
        · simp at h
    · rintro ⟨j, h1, h2⟩
      by_cases hj : j < m
      · exact .inl ⟨j, hj, h2⟩
      · obtain rfl : j = m := by omega
        by_cases hk : Lib.keeps d j = true
        · right; rw [if_pos hk]; simp [h2]
        · have : ¬ (j = 0 ∨ d[j]! ≠ d[j - 1]!) := by simpa [Lib.keeps] using hk
          have h0 : j ≠ 0 := fun e => this (.inl e)
          have h3 : d[j]! = d[j - 1]! := Classical.byContradiction fun e => this (.inr e)
          exact .inl ⟨j - 1, by omega, by rw [← h3]; exact h2⟩
theorem upTo_lt (d : Array LB) (hd : ∀ i j, i < j → j < d.size → d[i]! ≤ d[j]!) : ∀ m, m ≤ d.size → (Lib.compactUpTo d m).Pairwise (· < ·)
  | 0, _ => by rw [upTo_zero]; exact List.Pairwise.nil
  | m + 1, hm => by
    rw [Lib.compactUpTo_succ]
    by_cases hk : Lib.keeps d m = true
    · rw [if_pos hk, List.pairwise_append]
      refine ⟨upTo_lt d hd m (by omega), List.pairwise_singleton _ _, fun a ha b hb => ?_⟩
      rw [List.mem_singleton.1 hb]
      obtain ⟨j, hj, rfl⟩ := (upTo_mem d hd m (by omega) a).1 ha
      have h0 : m ≠ 0 := by omega
      have hne : d[m]! ≠ d[m - 1]! := by
        have : m = 0 ∨ d[m]! ≠ d[m - 1]! := by simpa [Lib.keeps] using hk
        rcases this with h | h
        · exact absurd h h0
        · exact h
      have h1 : d[j]! ≤ d[m - 1]! := by
        by_cases e : j = m - 1
        · subst e; exact List.le_refl _
        · exact hd j (m - 1) (by omega) (by omega)
      have h2 : d[m - 1]! ≤ d[m]! := hd (m - 1) m (by omega) (by omega)
      refine Classical.byContradiction fun hn => ?_
      have h3 : d[m]! ≤ d[j]! := List.not_lt.1 hn
      exact hne (List.le_antisymm (List.le_trans h3 h1) h2)
    · rw [if_neg hk, List.append_nil]; exact upTo_lt d hd m (by omega)
theorem compact_facts (zs : List LB) (h : zs.Pairwise (· ≤ ·)) : (Lib.compact zs).Pairwise (· < ·) ∧ ∀ x, x ∈ Lib.compact zs ↔ x ∈ zs := by
  have hg : ∀ j, (hj : j < zs.length) → zs.toArray[j]! = zs[j] := fun j hj => by rw [getElem!_pos zs.toArray j (by simpa using hj)]; simp
  have hd : ∀ i j, i < j → j < zs.toArray.size → zs.toArray[i]! ≤ zs.toArray[j]! := fun i j hij hj => by
    have hj' : j < zs.length := by simpa using hj
    rw [hg i (by omega), hg j hj']
    exact List.pairwise_iff_getElem.1 h i j (by omega) hj' hij
  have hz : zs.length ≤ zs.toArray.size := by simp
  unfold Lib.compact
  refine ⟨upTo_lt _ hd _ hz, fun x => ?_⟩
  rw [upTo_mem _ hd _ hz]
  constructor
  · rintro ⟨j, h1, h2⟩
    rw [hg j h1] at h2
    rw [← h2]; exact List.getElem_mem _
  · intro hx
    obtain ⟨j, hj, rfl⟩ := List.getElem_of_mem hx
    exact ⟨j, hj, hg j hj⟩
/-- Strictly rising lists that have the same elements are the same. -/
theorem rising_eq {a b : List LB} (ha : a.Pairwise (· < ·)) (hb : b.Pairwise (· < ·)) (h : ∀ x, x ∈ a ↔ x ∈ b) : a = b := by
  have na : a.Nodup := ha.imp (fun h e => by subst e; exact List.lt_irrefl _ h)
  have nb : b.Nodup := hb.imp (fun h e => by subst e; exact List.lt_irrefl _ h)
  have hp : a.Perm b := by
    rw [List.perm_iff_count]
    intro x
    by_cases hx : x ∈ a
    · rw [na.count, nb.count, if_pos hx, if_pos ((h x).1 hx)]
    · rw [List.count_eq_zero_of_not_mem hx, List.count_eq_zero_of_not_mem (fun e => hx ((h x).2 e))]
  exact List.Perm.eq_of_pairwise (le := (· < ·)) (fun x y _ _ h1 h2 => absurd (List.lt_trans h1 h2) (List.lt_irrefl _)) ha hb hp

theorem onceOf_mem (l : List ByteArray) (w : ByteArray) : w ∈ onceOf l ↔ w ∈ l := by
  unfold onceOf
  obtain ⟨_, h⟩ := compact_facts _ (sorted_le (l.map bl))
  constructor
  · intro hw
    obtain ⟨x, hx, rfl⟩ := List.mem_map.1 hw
    rw [h, (sorted_perm _).mem_iff] at hx
    obtain ⟨v, hv, rfl⟩ := List.mem_map.1 hx
    rw [lb_bl]; exact hv
  · intro hw
    refine List.mem_map.2 ⟨bl w, ?_, lb_bl w⟩
    rw [h, (sorted_perm _).mem_iff]
    exact List.mem_map.2 ⟨w, hw, rfl⟩
theorem onceOf_bl (l : List ByteArray) : (onceOf l).map bl = Lib.compact (sorted (l.map bl)) := by
  unfold onceOf
  rw [List.map_map]
  have : (bl ∘ lb) = id := by funext x; exact bl_lb x
  rw [this, List.map_id]
theorem onceOf_rising (l : List ByteArray) : ((onceOf l).map bl).Pairwise (· < ·) := by
  rw [onceOf_bl]; exact (compact_facts _ (sorted_le (l.map bl))).1
/-- What is rising and has the same words as l is l's set. -/
theorem onceOf_unique {l r : List ByteArray} (hr : (r.map bl).Pairwise (· < ·)) (h : ∀ w, w ∈ r ↔ w ∈ l) : r = onceOf l := by
  have e : r.map bl = (onceOf l).map bl := by
    refine rising_eq hr (onceOf_rising l) (fun x => ?_)
    constructor
    · intro hx
      obtain ⟨w, hw, rfl⟩ := List.mem_map.1 hx
      exact List.mem_map.2 ⟨w, (onceOf_mem l w).2 ((h w).1 hw), rfl⟩
    · intro hx
      obtain ⟨w, hw, rfl⟩ := List.mem_map.1 hx
      exact List.mem_map.2 ⟨w, (h w).2 ((onceOf_mem l w).1 hw), rfl⟩
  have e2 := congrArg (List.map lb) e
  rw [List.map_map, List.map_map] at e2
  have : (lb ∘ bl) = id := by funext x; exact lb_bl x
  rw [this, List.map_id, List.map_id] at e2
  exact e2
theorem onceOf_same {l m : List ByteArray} (h : ∀ w, w ∈ l ↔ w ∈ m) : onceOf l = onceOf m :=
  onceOf_unique (onceOf_rising l) (fun w => (onceOf_mem l w).trans (h w))
theorem onceOf_nodup (l : List ByteArray) : (onceOf l).Nodup := by
  have h := onceOf_rising l
  rw [List.pairwise_map] at h
  exact h.imp (fun h e => by subst e; exact List.lt_irrefl _ h)
theorem onceOf_length_le {l m : List ByteArray} (h : ∀ w ∈ l, w ∈ m) : (onceOf l).length ≤ m.length :=
  List.Nodup.length_le_of_subset (onceOf_nodup l) (fun w hw => h w ((onceOf_mem l w).1 hw))

instance baDec : DecidableEq ByteArray := fun a b => decidable_of_iff (a.data.toList = b.data.toList) ⟨wba_ext, fun h => by rw [h]⟩
instance memDec (s : ByteArray) (l : List ByteArray) : Decidable (s ∈ l) := @List.instDecidableMemOfLawfulBEq ByteArray instBEqOfDecidableEq _ s l
def Rising (l : List ByteArray) : Prop := (l.map bl).Pairwise (· < ·)
theorem bytesLess_bl (a b : ByteArray) : Op.bytesLess a.toList b.toList = decide (bl a < bl b) := by rw [less_lt, bl_toList, bl_toList]
theorem rising_ins {l : List ByteArray} {s : ByteArray} (n : Nat) (hr : Rising l) (h1 : ∀ w ∈ l.take n, bl w < bl s) (h2 : ∀ w ∈ l.drop n, bl s < bl w) : Rising (l.take n ++ [s] ++ l.drop n) := by
  unfold Rising at *
  rw [← List.take_append_drop n l, List.map_append, List.pairwise_append] at hr
  rw [List.map_append, List.map_append, List.pairwise_append, List.pairwise_append]
  refine ⟨⟨hr.1, by simp, ?_⟩, hr.2.1, ?_⟩
  · intro a ha b hb
    obtain ⟨w, hw, rfl⟩ := List.mem_map.1 ha
    simp only [List.map_cons, List.map_nil, List.mem_singleton] at hb
    rw [hb]; exact h1 w hw
  · intro a ha b hb
    rcases List.mem_append.1 ha with h | h
    · exact hr.2.2 a h b hb
    · simp only [List.map_cons, List.map_nil, List.mem_singleton] at h
      obtain ⟨w, hw, rfl⟩ := List.mem_map.1 hb
      rw [h]; exact h2 w hw
theorem fold_acc : ∀ (xs : List Int) (p : List Int) (acc : List ByteArray), xs.foldl wstep (p, acc) = ((xs.foldl wstep (p, [])).1, acc ++ (xs.foldl wstep (p, [])).2)
  | [], p, acc => by simp
  | x :: xs, p, acc => by
    rw [List.foldl_cons, List.foldl_cons, wstep_eq, wstep_eq]
    by_cases h : signOf x = 0
    · rw [if_pos h, if_pos h]
      simp only [List.nil_append]
      rw [fold_acc xs [] (acc ++ flush p), fold_acc xs [] (flush p)]
      simp
    · rw [if_neg h, if_neg h]
      exact fold_acc xs _ acc
theorem words_join (x y : ByteArray) : wordsOf (x ++ (⟨#[32]⟩ : ByteArray) ++ y) = wordsOf x ++ wordsOf y := by
  have e : bytesW (⟨#[32]⟩ : ByteArray) = [32] := rfl
  rw [wordsOf_eq, wordsOf_eq, wordsOf_eq, bytesW_append, bytesW_append, e]
  simp only [List.foldl_append, List.foldl_cons, List.foldl_nil]
  have h32 : signOf 32 = 0 := by decide
  have h0 : signOf 0 = 0 := by decide
  rw [wstep_eq (List.foldl wstep ([], []) (bytesW x)) 32, wstep_eq (List.foldl wstep ([], []) (bytesW x)) 0, if_pos h32, if_pos h0]
  rw [fold_acc (bytesW y) [] _, wstep_eq, wstep_eq, if_pos h0, if_pos h0]
  simp
/-! The law's texts. -/
def nine : List ByteArray := [(⟨#[99, 97, 116]⟩ : ByteArray), (⟨#[100, 111, 103]⟩ : ByteArray), (⟨#[111, 120]⟩ : ByteArray), (⟨#[116, 104, 101]⟩ : ByteArray), (⟨#[119, 111, 114, 100, 48]⟩ : ByteArray), (⟨#[97, 97]⟩ : ByteArray), (⟨#[122, 101, 98, 114, 97]⟩ : ByteArray), (⟨#[120, 57]⟩ : ByteArray), (⟨#[108, 111, 110, 103, 108, 111, 110, 103, 108, 111, 110, 103, 108, 111, 110, 103, 108, 111, 110, 103]⟩ : ByteArray)]
def five : List ByteArray := [(⟨#[32]⟩ : ByteArray), (⟨#[44, 32]⟩ : ByteArray), (⟨#[45]⟩ : ByteArray), (⟨#[10]⟩ : ByteArray), (⟨#[255, 32]⟩ : ByteArray)]
def wordAt (x : Int) : ByteArray := nine.getD (pickI x 9).toNat ⟨#[]⟩
def sepAt (x : Int) : ByteArray := five.getD (pickI (Int.tdiv x 9) 5).toNat ⟨#[]⟩
def item (x : Int) : List Int := bytesW (wordAt x) ++ bytesW (sepAt x)
theorem getD_mem {α : Type} {l : List α} {i : Nat} {d : α} (h : i < l.length) : l.getD i d ∈ l := by
  rw [List.getD_eq_getElem?_getD, List.getElem?_eq_getElem h]; exact List.getElem_mem h
theorem wordAt_mem (x : Int) : wordAt x ∈ nine := getD_mem (by have := pickI_range (c := x) (n := 9) (by omega); simp [nine]; omega)
theorem sepAt_mem (x : Int) : sepAt x ∈ five := getD_mem (by have := pickI_range (c := Int.tdiv x 9) (n := 5) (by omega); simp [five]; omega)
theorem nine_good : ∀ w ∈ nine, GoodWord w := by
  unfold GoodWord Good
  decide +kernel
theorem five_facts : ∀ s ∈ five, s.size ≤ 2 ∧ bytesW s ≠ [] ∧ ∀ c ∈ bytesW s, signOf c = 0 := by decide +kernel
theorem fold_sep : ∀ (cs : List Int) (p : List Int) (acc : List ByteArray), cs ≠ [] → (∀ c ∈ cs, signOf c = 0) → cs.foldl wstep (p, acc) = ([], acc ++ flush p)
  | [], p, acc, h, _ => absurd rfl h
  | [c], p, acc, _, h => by
    simp only [List.foldl_cons, List.foldl_nil]
    rw [wstep_eq, if_pos (h c (by simp))]
  | c :: d :: cs, p, acc, _, h => by
    rw [List.foldl_cons, wstep_eq, if_pos (h c (by simp)), fold_sep (d :: cs) [] _ (by simp) (fun x hx => h x (List.mem_cons_of_mem _ hx))]
    simp [flush]
theorem fold_item (x : Int) (acc : List ByteArray) : (item x).foldl wstep ([], acc) = ([], acc ++ [wordAt x]) := by
  have hw := nine_good _ (wordAt_mem x)
  have hs := five_facts _ (sepAt_mem x)
  unfold item
  rw [List.foldl_append, foldl_word _ _ _ hw.2.2, List.nil_append, fold_sep _ _ _ hs.2.1 hs.2.2, flush_word hw]
theorem fold_items : ∀ (xs : List Int) (acc : List ByteArray), (xs.flatMap item).foldl wstep ([], acc) = ([], acc ++ xs.map wordAt)
  | [], acc => by simp
  | x :: xs, acc => by rw [List.flatMap_cons, List.foldl_append, fold_item, fold_items xs]; simp
theorem words_items {s : ByteArray} {xs : List Int} (h : bytesW s = xs.flatMap item) : wordsOf s = xs.map wordAt := by
  rw [wordsOf_eq, h, List.foldl_append, fold_items]
  simp only [List.foldl_cons, List.foldl_nil]
  rw [wstep_eq, if_pos (by decide)]
  simp [flush]
theorem setOf_nine {s : ByteArray} (h : ∀ w ∈ wordsOf s, w ∈ nine) : (setOf s).length ≤ 9 := onceOf_length_le (m := nine) h
end Go.Proofs.Ytipolblhiljoiaa.Sy
