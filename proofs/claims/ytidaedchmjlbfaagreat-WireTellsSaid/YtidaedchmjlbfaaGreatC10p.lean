/- Layer 10: what is written, and what is taken, as plain data. -/
import Derived.Test.YtidaedchmjlbfaaGreatSyInt
namespace Go.Proofs.YtidaedchmjlbfaaGreat.Sy
open Go Go.RowKit
set_option linter.unusedVariables false
set_option linter.unusedSimpArgs false
/-- Four bytes as a number, the highest one first. -/
def b4 (s : ByteArray) (i : Int) : Int := ((btv s i * 256 + btv s (i + 1)) * 256 + btv s (i + 2)) * 256 + btv s (i + 3)
theorem b4_range (s : ByteArray) (i : Int) : 0 ≤ b4 s i ∧ b4 s i ≤ 4294967295 := by
  have h0 := btv_range s i
  have h1 := btv_range s (i + 1)
  have h2 := btv_range s (i + 2)
  have h3 := btv_range s (i + 3)
  unfold b4
  omega
def numS (n : Int) : ByteArray := strOfNums [n / 16777216, n / 65536 % 256, n / 256 % 256, n % 256]
theorem numS_size (n : Int) : (numS n).size = 4 := by simp [numS, strOfNums_size]
def numE (n : Int) : ByteArray × Int := if n < 0 ∨ 2147483647 < n then (⟨#[]⟩, 1) else (numS n, 0)
def textE (s : ByteArray) : ByteArray × Int := if 65536 < s.size then (⟨#[]⟩, 2) else (numS s.size ++ s, 0)
/-- A list's texts, behind what was written; none: they are too long. -/
def listR : List ByteArray → ByteArray → Option ByteArray
  | [], acc => some acc
  | x :: r, acc => if 65536 < x.size ∨ 65536 < acc.size + (4 + x.size) then none else listR r (acc ++ (numS x.size ++ x))
def listE (l : List ByteArray) : ByteArray × Int := if 1000 < l.length then (⟨#[]⟩, 2) else match listR l (numS l.length) with
  | some b => (b, 0)
  | none => (⟨#[]⟩, 2)
/-- May a cursor be? -/
def okC (s : ByteArray) (a : Int) : Bool := decide ((s.size : Int) ≤ 65536) && decide (0 ≤ a) && decide (a ≤ s.size)
theorem okC_iff {s : ByteArray} {a : Int} : okC s a = true ↔ s.size ≤ 65536 ∧ 0 ≤ a ∧ a ≤ s.size := by
  unfold okC
  simp only [Bool.and_eq_true, decide_eq_true_eq]
  omega
def tNum (s : ByteArray) (a : Int) : Int × Int × Int :=
  if okC s a = true then if (s.size : Int) - a < 4 then (0, a, 10) else if 2147483647 < b4 s a then (0, a, 13) else (b4 s a, a + 4, 0) else (0, a, 1)
def partS (s : ByteArray) (a n : Int) : ByteArray × Int × Int :=
  if okC s a = true then if (s.size : Int) - a < n then (⟨#[]⟩, a, 10) else (s.extract a.toNat (a + n).toNat, a + n, 0) else (⟨#[]⟩, a, 1)
def tText (s : ByteArray) (a : Int) : ByteArray × Int × Int :=
  if (tNum s a).2.2 = 0 then if (partS s (a + 4) (b4 s a)).2.2 = 0 then partS s (a + 4) (b4 s a) else (⟨#[]⟩, a, (partS s (a + 4) (b4 s a)).2.2) else (⟨#[]⟩, a, (tNum s a).2.2)
/-- So many texts, from a place on, behind some: with an error, none, and the error. -/
def tTexts (s : ByteArray) : Nat → Int → List ByteArray → List ByteArray × Int × Int
  | 0, a, out => (out, a, 0)
  | n + 1, a, out => if (tText s a).2.2 = 0 then tTexts s n (tText s a).2.1 (out ++ [(tText s a).1]) else ([], a, (tText s a).2.2)
def tList (s : ByteArray) (a : Int) : List ByteArray × Int × Int :=
  if (tNum s a).2.2 = 0 then if 1000 < b4 s a then ([], a, 13) else
    if (tTexts s (b4 s a).toNat (a + 4) []).2.2 = 0 then tTexts s (b4 s a).toNat (a + 4) [] else ([], a, (tTexts s (b4 s a).toNat (a + 4) []).2.2) else ([], a, (tNum s a).2.2)
def endC (s : ByteArray) (a : Int) : Int := if okC s a = true then if a < s.size then 13 else 0 else 1
theorem tNum_ok {s : ByteArray} {a : Int} (h : (tNum s a).2.2 = 0) : okC s a = true ∧ a + 4 ≤ s.size ∧ b4 s a ≤ 2147483647 ∧ tNum s a = (b4 s a, a + 4, 0) := by
  unfold tNum at h ⊢
  by_cases c : okC s a = true
  · rw [if_pos c] at h ⊢
    by_cases c1 : (s.size : Int) - a < 4
    · rw [if_pos c1] at h; simp at h
    · rw [if_neg c1] at h ⊢
      by_cases c2 : 2147483647 < b4 s a
      · rw [if_pos c2] at h; simp at h
      · rw [if_neg c2]
        exact ⟨c, by omega, by omega, rfl⟩
  · rw [if_neg c] at h; simp at h
theorem tNum_no {s : ByteArray} {a : Int} (h : (tNum s a).2.2 ≠ 0) : tNum s a = (0, a, (tNum s a).2.2) := by
  unfold tNum at h ⊢
  by_cases c : okC s a = true
  · rw [if_pos c] at h ⊢
    by_cases c1 : (s.size : Int) - a < 4
    · rw [if_pos c1]
    · rw [if_neg c1] at h ⊢
      by_cases c2 : 2147483647 < b4 s a
      · rw [if_pos c2]
      · rw [if_neg c2] at h; simp at h
  · rw [if_neg c]
theorem okC_next {s : ByteArray} {a : Int} (h : okC s a = true) {n : Int} (h0 : 0 ≤ n) (h1 : a + n ≤ s.size) : okC s (a + n) = true := by
  rw [okC_iff] at h ⊢
  omega
theorem tText_ok {s : ByteArray} {a : Int} (h : (tText s a).2.2 = 0) : (tNum s a).2.2 = 0 ∧ a + 4 + b4 s a ≤ s.size ∧ tText s a = (s.extract (a + 4).toNat (a + 4 + b4 s a).toNat, a + 4 + b4 s a, 0) := by
  unfold tText at h ⊢
  by_cases c : (tNum s a).2.2 = 0
  · rw [if_pos c] at h ⊢
    obtain ⟨h1, h2, _, _⟩ := tNum_ok c
    have h4 := okC_next h1 (n := 4) (by omega) h2
    unfold partS at h ⊢
    simp only [h4, if_true] at h ⊢
    by_cases c1 : (s.size : Int) - (a + 4) < b4 s a
    · rw [if_pos c1] at h; simp at h
    · rw [if_neg c1]
      exact ⟨c, by omega, by simp⟩
  · rw [if_neg c] at h
    exact absurd h c
theorem tText_no {s : ByteArray} {a : Int} (h : (tText s a).2.2 ≠ 0) : tText s a = (⟨#[]⟩, a, (tText s a).2.2) := by
  unfold tText at h ⊢
  by_cases c : (tNum s a).2.2 = 0
  · rw [if_pos c] at h ⊢
    by_cases c1 : (partS s (a + 4) (b4 s a)).2.2 = 0
    · rw [if_pos c1] at h; exact absurd c1 h
    · rw [if_neg c1]
  · rw [if_neg c]
theorem tText_at {s : ByteArray} {a : Int} (h : (tText s a).2.2 = 0) : 0 ≤ a ∧ (tText s a).2.1 = a + 4 + (tText s a).1.size ∧ (tText s a).2.1 ≤ s.size ∧ s.size ≤ 65536 ∧ okC s (tText s a).2.1 = true ∧ ((tText s a).1.size : Int) = b4 s a := by
  obtain ⟨h1, h2, h3⟩ := tText_ok h
  obtain ⟨k1, k2, k3, _⟩ := tNum_ok h1
  have hb := b4_range s a
  have hc := okC_iff.1 k1
  have hs : ((s.extract (a + 4).toNat (a + 4 + b4 s a).toNat).size : Int) = b4 s a := by rw [ByteArray.size_extract]; omega
  rw [h3]
  refine ⟨hc.2.1, ?_, h2, hc.1, okC_iff.2 ⟨hc.1, by simp only; omega, h2⟩, hs⟩
  simp only
  omega
/-- What is taken of texts: as many, and at which place. -/
theorem tTexts_at {s : ByteArray} : ∀ (n : Nat) (a : Int) (out : List ByteArray), (tTexts s n a out).2.2 = 0 → a + 4 * n ≤ (tTexts s n a out).2.1 ∧ (tTexts s n a out).1.length = out.length + n ∧ (a ≤ s.size → (tTexts s n a out).2.1 ≤ s.size) ∧ (okC s a = true → okC s (tTexts s n a out).2.1 = true)
  | 0, a, out, h => by simp [tTexts]
  | n + 1, a, out, h => by
    unfold tTexts at h ⊢
    by_cases c : (tText s a).2.2 = 0
    · rw [if_pos c] at h ⊢
      obtain ⟨g1, g2, g3, g4, g5, g6⟩ := tText_at c
      obtain ⟨k1, k2, k3, k4⟩ := tTexts_at n _ _ h
      refine ⟨by omega, by rw [k2, List.length_append, List.length_singleton]; omega, fun _ => k3 g3, fun _ => k4 g5⟩
    · rw [if_neg c] at h; exact absurd h c
theorem tList_ok {s : ByteArray} {a : Int} (h : (tList s a).2.2 = 0) : (tNum s a).2.2 = 0 ∧ b4 s a ≤ 1000 ∧ (tTexts s (b4 s a).toNat (a + 4) []).2.2 = 0 ∧ tList s a = tTexts s (b4 s a).toNat (a + 4) [] := by
  unfold tList at h ⊢
  by_cases c : (tNum s a).2.2 = 0
  · rw [if_pos c] at h ⊢
    by_cases c1 : 1000 < b4 s a
    · rw [if_pos c1] at h; simp at h
    · rw [if_neg c1] at h ⊢
      by_cases c2 : (tTexts s (b4 s a).toNat (a + 4) []).2.2 = 0
      · rw [if_pos c2]; exact ⟨c, by omega, c2, rfl⟩
      · rw [if_neg c2] at h; exact absurd h c2
  · rw [if_neg c] at h; exact absurd h c
theorem tList_no {s : ByteArray} {a : Int} (h : (tList s a).2.2 ≠ 0) : tList s a = ([], a, (tList s a).2.2) := by
  unfold tList at h ⊢
  by_cases c : (tNum s a).2.2 = 0
  · rw [if_pos c] at h ⊢
    by_cases c1 : 1000 < b4 s a
    · rw [if_pos c1]
    · rw [if_neg c1] at h ⊢
      by_cases c2 : (tTexts s (b4 s a).toNat (a + 4) []).2.2 = 0
      · rw [if_pos c2] at h; exact absurd c2 h
      · rw [if_neg c2]
  · rw [if_neg c]
theorem tList_at {s : ByteArray} {a : Int} (h : (tList s a).2.2 = 0) : 0 ≤ a ∧ a + 4 + 4 * (tList s a).1.length ≤ (tList s a).2.1 ∧ (tList s a).2.1 ≤ s.size ∧ s.size ≤ 65536 ∧ (tList s a).1.length ≤ 1000 ∧ okC s (tList s a).2.1 = true ∧ ((tList s a).1.length : Int) = b4 s a := by
  obtain ⟨h1, h2, h3, h4⟩ := tList_ok h
  obtain ⟨k1, k2, k3, _⟩ := tNum_ok h1
  have hc := okC_iff.1 k1
  have hb := b4_range s a
  obtain ⟨g1, g2, g3, g4⟩ := tTexts_at _ _ _ h3
  rw [h4]
  rw [List.length_nil] at g2
  have h5 := okC_next k1 (n := 4) (by omega) k2
  exact ⟨hc.2.1, by rw [g2]; omega, g3 k2, hc.1, by rw [g2]; omega, g4 h5, by rw [g2]; omega⟩
end Go.Proofs.YtidaedchmjlbfaaGreat.Sy
