/- Words, in plain words: what a text's words are. -/
import Derived.Test.YtpmjnggkhjjiaaaHandSet
import Derived.Test.YtpmjnggkhjjiaaaAx6
import Derived.Test.YtpmjnggkhjjiaaaAx5
namespace Go.Proofs.Ytpmjnggkhjjiaaa.A
open Go.RowKit Go.Proofs.YtpmjnggkhjjiaaaW.PrintWords Go.Proofs.YtpmjnggkhjjiaaaW.PrintLast Go.Proofs.YtpmjnggkhjjiaaaW.PrintMore
set_option linter.unusedVariables false
set_option linter.unusedSimpArgs false

theorem wrap64_id {n : Int} (h0 : -9223372036854775808 ≤ n) (h1 : n ≤ 9223372036854775807) : wrap64 n = n := by unfold wrap64; omega
theorem ba_ext {a b : ByteArray} (h : a.data.toList = b.data.toList) : a = b := by
  cases a; cases b; simp only [ByteArray.mk.injEq]; exact Array.toList_inj.1 h
theorem toList_loop (s : ByteArray) : ∀ (d i : Nat) (r : List UInt8), s.size - i = d → ByteArray.toList.loop s i r = r.reverse ++ s.data.toList.drop i
  | 0, i, r, h => by
    unfold ByteArray.toList.loop
    rw [if_neg (by omega), List.drop_eq_nil_of_le (by rw [Array.length_toList]; show s.size ≤ i; omega), List.append_nil]
  | d + 1, i, r, h => by
    unfold ByteArray.toList.loop
    have hi : i < s.data.toList.length := by rw [Array.length_toList]; show i < s.size; omega
    rw [if_pos (by omega), toList_loop s d _ _ (by omega), List.drop_eq_getElem_cons hi, List.reverse_cons, List.append_assoc]
    congr 2
    have hi' : i < s.data.size := by simpa using hi
    simp only [List.reverse_nil, List.nil_append, List.singleton_append, Array.getElem_toList, List.cons.injEq, and_true, ByteArray.get!]
    exact getElem!_pos s.data i hi'
theorem toList_data (s : ByteArray) : s.toList = s.data.toList := by
  unfold ByteArray.toList
  rw [toList_loop s _ 0 [] rfl]; rfl
theorem toList_inj {a b : ByteArray} (h : a.toList = b.toList) : a = b := ba_ext (by rw [← toList_data, ← toList_data, h])

/-! Bytes of texts. -/
def Byte (b : Int) : Prop := 0 ≤ b ∧ b ≤ 255
theorem bytesOf_append (a b : ByteArray) : bytesOf (a ++ b) = bytesOf a ++ bytesOf b := by simp [bytesOf, ByteArray.data_append]
theorem bytesOf_byte (s : ByteArray) : ∀ b ∈ bytesOf s, Byte b := by
  intro b hb
  obtain ⟨c, _, rfl⟩ := List.mem_map.1 hb
  have := c.toNat_lt
  exact ⟨by omega, by omega⟩
theorem strOfNums_bytesOf (s : ByteArray) : strOfNums (bytesOf s) = s := by
  apply ba_ext
  simp only [strOfNums, bytesOf, List.map_map]
  rw [List.map_congr_left (g := id)]
  · simp
  · intro b _; simp
theorem bytesOf_strOfNums {xs : List Int} (h : ∀ b ∈ xs, Byte b) : bytesOf (strOfNums xs) = xs := by
  simp only [strOfNums, bytesOf, List.map_map]
  rw [List.map_congr_left (g := id)]
  · simp
  · intro b hb
    obtain ⟨h0, h1⟩ := h b hb
    simp only [Function.comp, id]
    rw [UInt8.toNat_ofNat']
    omega
theorem strOfNums_size (xs : List Int) : (strOfNums xs).size = xs.length := by simp [strOfNums, ByteArray.size]

/-! Signs. -/
def Good (c : Int) : Prop := signOf c = c ∧ 48 ≤ c ∧ c ≤ 122
theorem signOf_good {b : Int} (h : signOf b ≠ 0) : Good (signOf b) := by
  unfold Good signOf at *
  repeat' split
  all_goals first | omega | (exfalso; omega) | skip
  all_goals (split at h <;> (try split at h) <;> omega)
theorem good_byte {c : Int} (h : Good c) : Byte c := ⟨by have := h.2.1; omega, by have := h.2.2; omega⟩
def greatB (b : Int) : Int := if 97 ≤ b ∧ b ≤ 122 then b - 32 else b
theorem signOf_great (b : Int) : signOf (greatB b) = signOf b := by
  unfold signOf greatB
  repeat' split
  all_goals omega

/-! The scan. -/
def flush (p : List Int) : List ByteArray := if 2 ≤ p.length then [strOfNums (p.take 20)] else []
theorem wstep_eq (st : List Int × List ByteArray) (b : Int) : wstep st b = if signOf b = 0 then ([], st.2 ++ flush st.1) else (st.1 ++ [signOf b], st.2) := by
  unfold wstep flush
  split
  · split <;> simp
  · rfl
theorem foldl_sign : ∀ (xs ys : List Int) (st : List Int × List ByteArray), xs.map signOf = ys.map signOf → xs.foldl wstep st = ys.foldl wstep st
  | [], [], st, _ => rfl
  | [], y :: ys, st, h => by simp at h
  | x :: xs, [], st, h => by simp at h
  | x :: xs, y :: ys, st, h => by
    simp only [List.map_cons, List.cons.injEq] at h
    simp only [List.foldl_cons]
    rw [foldl_sign xs ys _ h.2, wstep_eq, wstep_eq st y, h.1]
def GoodWord (w : ByteArray) : Prop := 2 ≤ w.size ∧ w.size ≤ 20 ∧ ∀ c ∈ bytesOf w, Good c
theorem flush_good {p : List Int} (h : ∀ c ∈ p, Good c) : ∀ w ∈ flush p, GoodWord w := by
  intro w hw
  unfold flush at hw
  split at hw
  · obtain rfl := List.mem_singleton.1 hw
    have hg : ∀ c ∈ p.take 20, Good c := fun c hc => h c (List.mem_of_mem_take hc)
    refine ⟨?_, ?_, ?_⟩
    · rw [strOfNums_size, List.length_take]; omega
    · rw [strOfNums_size, List.length_take]; omega
    · rw [bytesOf_strOfNums (fun c hc => good_byte (hg c hc))]; exact hg
  · simp at hw
theorem foldl_good : ∀ (xs : List Int) (st : List Int × List ByteArray), (∀ c ∈ st.1, Good c) → (∀ w ∈ st.2, GoodWord w) → (∀ c ∈ (xs.foldl wstep st).1, Good c) ∧ ∀ w ∈ (xs.foldl wstep st).2, GoodWord w
  | [], st, h1, h2 => ⟨h1, h2⟩
  | x :: xs, st, h1, h2 => by
    simp only [List.foldl_cons]
    refine foldl_good xs _ ?_ ?_
    · rw [wstep_eq]
      split
      · simp
      · rename_i hs
        intro c hc
        rcases List.mem_append.1 hc with h | h
        · exact h1 c h
        · rw [List.mem_singleton.1 h]; exact signOf_good hs
    · rw [wstep_eq]
      split
      · intro w hw
        rcases List.mem_append.1 hw with h | h
        · exact h2 w h
        · exact flush_good h1 w h
      · exact h2
theorem wordsOf_eq (s : ByteArray) : wordsOf s = ((bytesOf s ++ [0]).foldl wstep ([], [])).2 := by
  unfold wordsOf wscan
  rw [bytesOf_append]; rfl
theorem wordsOf_good (s : ByteArray) : ∀ w ∈ wordsOf s, GoodWord w := by
  rw [wordsOf_eq]
  exact (foldl_good _ _ (by simp) (by simp)).2
theorem wordsOf_length (s : ByteArray) : (wordsOf s).length ≤ s.size + 1 := by
  have := (wscan_len (bytesOf (s ++ (⟨#[0]⟩ : ByteArray))).length (bytesOf (s ++ (⟨#[0]⟩ : ByteArray)))).2
  rw [List.take_length, bytesOf_length, ByteArray.size_append] at this
  exact this
theorem wordsOf_sign {a b : ByteArray} (h : (bytesOf a).map signOf = (bytesOf b).map signOf) : wordsOf a = wordsOf b := by
  rw [wordsOf_eq, wordsOf_eq, foldl_sign _ (bytesOf b ++ [0]) _ (by rw [List.map_append, List.map_append, h])]
theorem foldl_word : ∀ (cs : List Int) (p : List Int) (acc : List ByteArray), (∀ c ∈ cs, Good c) → cs.foldl wstep (p, acc) = (p ++ cs, acc)
  | [], p, acc, _ => by simp
  | c :: cs, p, acc, h => by
    have hc := h c List.mem_cons_self
    simp only [List.foldl_cons]
    rw [wstep_eq, if_neg (by have := hc.1; have := hc.2.1; omega), hc.1, foldl_word cs _ acc (fun d hd => h d (List.mem_cons_of_mem _ hd))]
    simp
theorem flush_word {w : ByteArray} (h : GoodWord w) : flush (bytesOf w) = [w] := by
  unfold flush
  rw [if_pos (by rw [bytesOf_length]; exact h.1), List.take_of_length_le (by rw [bytesOf_length]; exact h.2.1), strOfNums_bytesOf]
/-- Words, put together with two blanks ahead of each. -/
def joinB (ws : List ByteArray) : List Int := ws.flatMap fun w => 32 :: 32 :: bytesOf w
theorem foldl_join : ∀ (ws : List ByteArray) (p : List Int) (acc : List ByteArray), (∀ w ∈ ws, GoodWord w) → ((joinB ws ++ [0]).foldl wstep (p, acc)).2 = acc ++ flush p ++ ws
  | [], p, acc, _ => by
    simp only [joinB, List.flatMap_nil, List.nil_append, List.foldl_cons, List.foldl_nil]
    rw [wstep_eq, if_pos (by decide)]
    simp
  | w :: ws, p, acc, h => by
    have hw := h w List.mem_cons_self
    have e : joinB (w :: ws) ++ [0] = 32 :: 32 :: (bytesOf w ++ (joinB ws ++ [0])) := by simp [joinB]
    rw [e]
    simp only [List.foldl_cons, List.foldl_append]
    have e1 : wstep (p, acc) 32 = ([], acc ++ flush p) := by rw [wstep_eq, if_pos (by decide)]
    have e2 : wstep ([], acc ++ flush p) 32 = ([], acc ++ flush p) := by rw [wstep_eq, if_pos (by decide)]; simp [flush]
    rw [e1, e2, foldl_word _ _ _ hw.2.2, List.nil_append]
    have ih := foldl_join ws (bytesOf w) (acc ++ flush p) (fun v hv => h v (List.mem_cons_of_mem _ hv))
    rw [List.foldl_append] at ih
    refine Eq.trans ih ?_
    rw [flush_word hw]
    simp

/-! May. -/
theorem may_loop (w : ByteArray) (xs : List Int) (hl : xs.length ≤ 4096) (hg : ∀ c ∈ xs, Byte c) : ∀ (d : Nat) (i : Int) (k : Nat), 0 ≤ i → (xs.length : Int) - i = d → d + 5 ≤ k →
    words_May.l0 k w xs xs.length i = some (decide (∀ c ∈ xs.drop i.toNat, c ≠ 0 ∧ signOf c = c) && (decide ((w.size : Int) ≥ 2) && decide ((w.size : Int) ≤ 20)))
  | 0, i, k, h0, hd, hk => by
    obtain ⟨k, rfl⟩ : ∃ m, k = m + 1 := ⟨k - 1, by omega⟩
    unfold words_May.l0
    rw [if_neg (by omega), List.drop_eq_nil_of_le (by omega)]
    by_cases h : (w.size : Int) ≥ 2
    · rw [if_pos h]; simp [h]
    · rw [if_neg h]; simp [h]
  | d + 1, i, k, h0, hd, hk => by
    obtain ⟨k, rfl⟩ : ∃ m, k = m + 1 := ⟨k - 1, by omega⟩
    have hi : i.toNat < xs.length := by omega
    have he : rd xs i = xs[i.toNat] := by
      unfold rd; rw [List.getD_eq_getElem?_getD, List.getElem?_eq_getElem hi]; rfl
    have hd1 : xs.drop i.toNat = xs[i.toNat] :: xs.drop (i + 1).toNat := by
      rw [show (i + 1).toNat = i.toNat + 1 by omega]; exact List.drop_eq_getElem_cons hi
    have hb := hg _ (List.getElem_mem hi)
    unfold words_May.l0
    rw [if_pos (by omega), if_pos h0, if_pos (by omega), he, sign_eq k _ (by omega) hb.1 hb.2, wrap64_id (by omega) (by omega), may_loop w xs hl hg d (i + 1) k (by omega) (by omega) (by omega), hd1]
    simp only [Option.bind_some]
    by_cases c1 : xs[i.toNat] = 0
    · rw [if_pos c1]; simp [c1]
    · rw [if_neg c1]
      by_cases c2 : signOf xs[i.toNat] = xs[i.toNat]
      · rw [if_pos c2]; simp [c1, c2]
      · rw [if_neg c2]; simp [c2]
def mayOf (w : ByteArray) : Bool := decide (∀ c ∈ bytesOf w, c ≠ 0 ∧ signOf c = c) && (decide ((w.size : Int) ≥ 2) && decide ((w.size : Int) ≤ 20))
theorem may_eq (w : ByteArray) (k : Nat) (hw : w.size ≤ 4096) (hk : 4110 ≤ k) : words_May.f k w = some (mayOf w) := by
  unfold words_May.f conv_bytes.f mayOf
  rw [if_pos (by omega)]
  simp only [Option.bind_some]
  rw [may_loop w (bytesOf w) (by rw [bytesOf_length]; exact hw) (bytesOf_byte w) (bytesOf w).length 0 k (by omega) (by omega) (by rw [bytesOf_length]; omega)]
  rfl
theorem may_good {w : ByteArray} (h : GoodWord w) : mayOf w = true := by
  unfold mayOf
  have h1 := h.1; have h2 := h.2.1
  simp only [Bool.and_eq_true, decide_eq_true_eq]
  exact ⟨fun c hc => ⟨by have := (h.2.2 c hc).2.1; omega, (h.2.2 c hc).1⟩, by omega, by omega⟩
theorem split_le {s : ByteArray} (h : s.size ≤ 2000) : words_Split.f s = some (wordsOf s, 0) := by
  unfold words_Split.f; rw [if_neg (by omega)]
end Go.Proofs.Ytpmjnggkhjjiaaa.A
