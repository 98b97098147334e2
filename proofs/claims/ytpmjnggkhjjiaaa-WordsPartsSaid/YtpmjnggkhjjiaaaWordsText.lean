/- The law's own texts, in plain words: what Text answers, and what its words are. -/
import Derived.Test.YtpmjnggkhjjiaaaWordsSet
namespace Go.Proofs.Ytpmjnggkhjjiaaa.A
open Go.RowKit Go.Proofs.YtpmjnggkhjjiaaaW.PrintWords Go.Proofs.YtpmjnggkhjjiaaaW.PrintLast Go.Proofs.YtpmjnggkhjjiaaaW.PrintMore
set_option linter.unusedVariables false
set_option linter.unusedSimpArgs false

def pk (a n : Int) : Int := if a < 0 then Int.tmod (-(a + 1)) n else Int.tmod a n
theorem pk_range (a n : Int) (hn : 0 < n) : 0 ≤ pk a n ∧ pk a n < n := by
  unfold pk
  split
  · exact ⟨Int.tmod_nonneg _ (by omega), Int.tmod_lt_of_pos _ hn⟩
  · exact ⟨Int.tmod_nonneg _ (by omega), Int.tmod_lt_of_pos _ hn⟩
theorem pick_eq (a n : Int) (ha : -9223372036854775808 ≤ a ∧ a ≤ 9223372036854775807) (hn : 0 < n) : columbariumlaw16_pick.f a n = some (pk a n) := by
  unfold columbariumlaw16_pick.f pk
  by_cases h : a < 0
  · rw [if_pos h, if_neg (show ¬ n = 0 by omega), wrap64_id (n := a + 1) (by omega) (by omega), wrap64_id (n := -(a + 1)) (by omega) (by omega), if_pos h]
  · rw [if_neg h, if_neg (show ¬ n = 0 by omega), if_neg h]
def nine : List ByteArray := [(⟨#[99, 97, 116]⟩ : ByteArray), (⟨#[100, 111, 103]⟩ : ByteArray), (⟨#[111, 120]⟩ : ByteArray), (⟨#[116, 104, 101]⟩ : ByteArray), (⟨#[119, 111, 114, 100, 48]⟩ : ByteArray), (⟨#[97, 97]⟩ : ByteArray), (⟨#[122, 101, 98, 114, 97]⟩ : ByteArray), (⟨#[120, 57]⟩ : ByteArray), (⟨#[108, 111, 110, 103, 108, 111, 110, 103, 108, 111, 110, 103, 108, 111, 110, 103, 108, 111, 110, 103]⟩ : ByteArray)]
def five : List ByteArray := [(⟨#[32]⟩ : ByteArray), (⟨#[44, 32]⟩ : ByteArray), (⟨#[45]⟩ : ByteArray), (⟨#[10]⟩ : ByteArray), (⟨#[255, 32]⟩ : ByteArray)]
def wordAt (x : Int) : ByteArray := rdOf ByteArray.empty nine (pk x 9)
def sepAt (x : Int) : ByteArray := rdOf ByteArray.empty five (pk (Int.tdiv x 9) 5)
def item (x : Int) : List Int := bytesOf (wordAt x) ++ bytesOf (sepAt x)
theorem wordAt_mem (x : Int) : wordAt x ∈ nine := rdOf_mem (pk_range x 9 (by omega)).1 (by have := (pk_range x 9 (by omega)).2; simp [nine]; omega)
theorem sepAt_mem (x : Int) : sepAt x ∈ five := rdOf_mem (pk_range _ 5 (by omega)).1 (by have := (pk_range (Int.tdiv x 9) 5 (by omega)).2; simp [five]; omega)
theorem nine_good : ∀ w ∈ nine, GoodWord w := by
  intro w hw
  simp only [nine, List.mem_cons, List.not_mem_nil, or_false] at hw
  rcases hw with h | h | h | h | h | h | h | h | h <;> (rw [h]; unfold GoodWord Good; decide)
theorem five_facts : ∀ s ∈ five, s.size ≤ 2 ∧ bytesOf s ≠ [] ∧ ∀ c ∈ bytesOf s, signOf c = 0 := by
  intro w hw
  simp only [five, List.mem_cons, List.not_mem_nil, or_false] at hw
  rcases hw with h | h | h | h | h <;> (rw [h]; decide)
theorem tdiv9 {x : Int} (h : -9223372036854775808 ≤ x ∧ x ≤ 9223372036854775807) : -9223372036854775808 ≤ Int.tdiv x 9 ∧ Int.tdiv x 9 ≤ 9223372036854775807 := by
  by_cases hn : 0 ≤ x
  · rw [Int.tdiv_eq_ediv_of_nonneg hn]; omega
  · obtain ⟨y, rfl⟩ : ∃ y, x = -y := ⟨-x, by omega⟩
    rw [Int.neg_tdiv, Int.tdiv_eq_ediv_of_nonneg (by omega)]; omega
theorem Word_eq (x : Int) (h : -9223372036854775808 ≤ x ∧ x ≤ 9223372036854775807) : columbariumlaw16_Word.f x = some (wordAt x) := by
  have hp := pk_range x 9 (by omega)
  unfold columbariumlaw16_Word.f wordAt nine
  rw [pick_eq x 9 h (by omega)]
  simp only [Option.bind_some]
  rw [if_pos hp.1, if_pos (by simp; omega)]
theorem text_loop2 (l : List Int) (hl : ∀ x ∈ l, -9223372036854775808 ≤ x ∧ x ≤ 9223372036854775807) : ∀ (d : Nat) (acc : ByteArray) (i : Int) (k : Nat), 0 ≤ i → i ≤ 20 → 20 - i = d → (acc.size : Int) ≤ 22 * i → 2 * d + 3 ≤ k →
    ∃ r, columbariumlaw16_Text.l0 k l acc i = some r ∧ (r.size : Int) ≤ acc.size + 22 * ((l.drop i.toNat).take d).length ∧ bytesOf r = bytesOf acc ++ ((l.drop i.toNat).take d).flatMap item
  | 0, acc, i, k, h0, h1, hd, ha, hk => by
    obtain ⟨k, rfl⟩ : ∃ m, k = m + 1 + 1 := ⟨k - 2, by omega⟩
    rw [columbariumlaw16_Text.l0]
    have hf : decide (i < 20) = false := by simp; omega
    rw [hf]
    split <;> (rw [columbariumlaw16_Text.j1]; exact ⟨acc, by simp, by simp, by simp⟩)
  | d + 1, acc, i, k, h0, h1, hd, ha, hk => by
    obtain ⟨k, rfl⟩ : ∃ m, k = m + 1 + 1 := ⟨k - 2, by omega⟩
    rw [columbariumlaw16_Text.l0]
    by_cases hlt : i < (l.length : Int)
    · have ht : decide (i < 20) = true := by simp; omega
      have hi : i.toNat < l.length := by omega
      have he : rd l i = l[i.toNat] := by
        unfold rd; rw [List.getD_eq_getElem?_getD, List.getElem?_eq_getElem hi]; rfl
      have hm : rd l i ∈ l := by rw [he]; exact List.getElem_mem _
      have hb := hl _ hm
      have hq := tdiv9 hb
      have hw := nine_good _ (wordAt_mem (rd l i))
      have hs := five_facts _ (sepAt_mem (rd l i))
      have hp := pk_range (Int.tdiv (rd l i) 9) 5 (by omega)
      have hsz : (rdOf ByteArray.empty [(⟨#[32]⟩ : ByteArray), (⟨#[44, 32]⟩ : ByteArray), (⟨#[45]⟩ : ByteArray), (⟨#[10]⟩ : ByteArray), (⟨#[255, 32]⟩ : ByteArray)] (pk (Int.tdiv (rd l i) 9) 5)) = sepAt (rd l i) := rfl
      rw [if_pos hlt, ht, columbariumlaw16_Text.j1, if_pos rfl, if_pos h0, if_pos hlt, Word_eq _ hb]
      simp only [Option.bind_some]
      have hw2 := hw.2.1
      rw [if_pos (by omega), wrap64_id hq.1 hq.2, pick_eq _ 5 hq (by omega)]
      simp only [Option.bind_some]
      rw [if_pos hp.1, if_pos (by simp; omega), hsz, if_pos (by omega), wrap64_id (by omega) (by omega)]
      have hsz2 : ((acc ++ wordAt (rd l i) ++ sepAt (rd l i)).size : Int) ≤ acc.size + 22 := by rw [ByteArray.size_append, ByteArray.size_append]; omega
      obtain ⟨r, hr, hr1, hr2⟩ := text_loop2 l hl d (acc ++ wordAt (rd l i) ++ sepAt (rd l i)) (i + 1) k (by omega) (by omega) (by omega) (by omega) (by omega)
      have hdr : (l.drop i.toNat).take (d + 1) = rd l i :: (l.drop (i + 1).toNat).take d := by
        rw [List.drop_eq_getElem_cons hi, he, show (i + 1).toNat = i.toNat + 1 by omega]; rfl
      refine ⟨r, hr, ?_, ?_⟩
      · rw [hdr, List.length_cons]; omega
      · rw [hr2, hdr, bytesOf_append, bytesOf_append, List.flatMap_cons]
        simp [item]
    · rw [if_neg hlt, columbariumlaw16_Text.j1]
      refine ⟨acc, by simp, by omega, ?_⟩
      rw [List.drop_eq_nil_of_le (by omega)]; simp
theorem text_eq (l : List Int) (hl : ∀ x ∈ l, -9223372036854775808 ≤ x ∧ x ≤ 9223372036854775807) (k : Nat) (hk : 50 ≤ k) :
    ∃ r, columbariumlaw16_Text.f k l = some r ∧ r.size ≤ 22 * (l.take 20).length ∧ bytesOf r = (l.take 20).flatMap item := by
  unfold columbariumlaw16_Text.f
  obtain ⟨r, h1, h2, h3⟩ := text_loop2 l hl 20 (⟨#[]⟩ : ByteArray) 0 k (by omega) (by omega) (by omega) (by simp [ByteArray.size]) (by omega)
  refine ⟨r, h1, ?_, ?_⟩
  · have : ((⟨#[]⟩ : ByteArray).size : Int) = 0 := rfl
    rw [this] at h2
    have e : (0 : Int).toNat = 0 := rfl
    rw [e, List.drop_zero] at h2
    omega
  · rw [h3]; rfl

theorem fold_sep : ∀ (cs : List Int) (p : List Int) (acc : List ByteArray), cs ≠ [] → (∀ c ∈ cs, signOf c = 0) → cs.foldl wstep (p, acc) = ([], acc ++ flush p)
  | [], p, acc, h, _ => absurd rfl h
  | [c], p, acc, _, h => by
    simp only [List.foldl_cons, List.foldl_nil]
    rw [wstep_eq, if_pos (h c (by simp))]
  | c :: d :: cs, p, acc, _, h => by
    rw [List.foldl_cons, wstep_eq, if_pos (h c (by simp)), fold_sep (d :: cs) [] _ (by simp) (fun x hx => h x (List.mem_cons_of_mem _ hx))]
    simp [flush]
theorem fold_item (x : Int) (acc : List ByteArray) : (item x).foldl wstep ([], acc) = ([], acc ++ [wordAt x]) := by
  have hw := nine_good _ (wordAt_mem x)
  have hs := five_facts _ (sepAt_mem x)
  unfold item
  rw [List.foldl_append, foldl_word _ _ _ hw.2.2, List.nil_append, fold_sep _ _ _ hs.2.1 hs.2.2, flush_word hw]
theorem fold_items : ∀ (xs : List Int) (acc : List ByteArray), (xs.flatMap item).foldl wstep ([], acc) = ([], acc ++ xs.map wordAt)
  | [], acc => by simp
  | x :: xs, acc => by rw [List.flatMap_cons, List.foldl_append, fold_item, fold_items xs]; simp
theorem words_items {s : ByteArray} {xs : List Int} (h : bytesOf s = xs.flatMap item) : wordsOf s = xs.map wordAt := by
  rw [wordsOf_eq, h, List.foldl_append, fold_items]
  simp only [List.foldl_cons, List.foldl_nil]
  rw [wstep_eq, if_pos (by decide)]
  simp [flush]
theorem setOf_nine {s : ByteArray} (h : ∀ w ∈ wordsOf s, w ∈ nine) : (setOf s).length ≤ 9 := onceOf_length_le (m := nine) h
end Go.Proofs.Ytpmjnggkhjjiaaa.A
