/- The texts C10.. as one. -/
import Derived.Test.YtbigcojlpcchiaaGreatSyInt
import Derived.Test.YtbigcojlpcchiaaGreatSyTab
import Derived.Test.YtbigcojlpcchiaaGreatSyMore
import Derived.Test.YtbigcojlpcchiaaGreatSyStrs
import Derived.Test.YtbigcojlpcchiaaGreatSyBlw
import Derived.Test.YtbigcojlpcchiaaGreatSyRng
namespace Go.Proofs.YtbigcojlpcchiaaGreat.Sy
open Go Go.RowKit
set_option linter.unusedVariables false
set_option linter.unusedSimpArgs false
/-- Four bytes as a number, the highest one first. -/
def b4 (s : ByteArray) (i : Int) : Int := ((btv s i * 256 + btv s (i + 1)) * 256 + btv s (i + 2)) * 256 + btv s (i + 3)
theorem b4_range (s : ByteArray) (i : Int) : 0 ≤ b4 s i ∧ b4 s i ≤ 4294967295 := by
  have h0 := btv_range s i
  have h1 := btv_range s (i + 1)
  have h2 := btv_range s (i + 2)
  have h3 := btv_range s (i + 3)
  unfold b4
  omega
def numS (n : Int) : ByteArray := strOfNums [n / 16777216, n / 65536 % 256, n / 256 % 256, n % 256]
theorem numS_size (n : Int) : (numS n).size = 4 := by simp [numS, strOfNums_size]
def numE (n : Int) : ByteArray × Int := if n < 0 ∨ 2147483647 < n then (⟨#[]⟩, 1) else (numS n, 0)
def textE (s : ByteArray) : ByteArray × Int := if 65536 < s.size then (⟨#[]⟩, 2) else (numS s.size ++ s, 0)
/-- A list's texts, behind what was written; none: they are too long. -/
def listR : List ByteArray → ByteArray → Option ByteArray
  | [], acc => some acc
  | x :: r, acc => if 65536 < x.size ∨ 65536 < acc.size + (4 + x.size) then none else listR r (acc ++ (numS x.size ++ x))
def listE (l : List ByteArray) : ByteArray × Int := if 1000 < l.length then (⟨#[]⟩, 2) else match listR l (numS l.length) with
  | some b => (b, 0)
  | none => (⟨#[]⟩, 2)
/-- May a cursor be? -/
def okC (s : ByteArray) (a : Int) : Bool := decide ((s.size : Int) ≤ 65536) && decide (0 ≤ a) && decide (a ≤ s.size)
theorem okC_iff {s : ByteArray} {a : Int} : okC s a = true ↔ s.size ≤ 65536 ∧ 0 ≤ a ∧ a ≤ s.size := by
  unfold okC
  simp only [Bool.and_eq_true, decide_eq_true_eq]
  omega
def tNum (s : ByteArray) (a : Int) : Int × Int × Int :=
  if okC s a = true then if (s.size : Int) - a < 4 then (0, a, 10) else if 2147483647 < b4 s a then (0, a, 13) else (b4 s a, a + 4, 0) else (0, a, 1)
def partS (s : ByteArray) (a n : Int) : ByteArray × Int × Int :=
  if okC s a = true then if (s.size : Int) - a < n then (⟨#[]⟩, a, 10) else (s.extract a.toNat (a + n).toNat, a + n, 0) else (⟨#[]⟩, a, 1)
def tText (s : ByteArray) (a : Int) : ByteArray × Int × Int :=
  if (tNum s a).2.2 = 0 then if (partS s (a + 4) (b4 s a)).2.2 = 0 then partS s (a + 4) (b4 s a) else (⟨#[]⟩, a, (partS s (a + 4) (b4 s a)).2.2) else (⟨#[]⟩, a, (tNum s a).2.2)
/-- So many texts, from a place on, behind some: with an error, none, and the error. -/
def tTexts (s : ByteArray) : Nat → Int → List ByteArray → List ByteArray × Int × Int
  | 0, a, out => (out, a, 0)
  | n + 1, a, out => if (tText s a).2.2 = 0 then tTexts s n (tText s a).2.1 (out ++ [(tText s a).1]) else ([], a, (tText s a).2.2)
def tList (s : ByteArray) (a : Int) : List ByteArray × Int × Int :=
  if (tNum s a).2.2 = 0 then if 1000 < b4 s a then ([], a, 13) else
    if (tTexts s (b4 s a).toNat (a + 4) []).2.2 = 0 then tTexts s (b4 s a).toNat (a + 4) [] else ([], a, (tTexts s (b4 s a).toNat (a + 4) []).2.2) else ([], a, (tNum s a).2.2)
def endC (s : ByteArray) (a : Int) : Int := if okC s a = true then if a < s.size then 13 else 0 else 1
theorem tNum_ok {s : ByteArray} {a : Int} (h : (tNum s a).2.2 = 0) : okC s a = true ∧ a + 4 ≤ s.size ∧ b4 s a ≤ 2147483647 ∧ tNum s a = (b4 s a, a + 4, 0) := by
  unfold tNum at h ⊢
  by_cases c : okC s a = true
  · rw [if_pos c] at h ⊢
    by_cases c1 : (s.size : Int) - a < 4
    · rw [if_pos c1] at h; simp at h
    · rw [if_neg c1] at h ⊢
      by_cases c2 : 2147483647 < b4 s a
      · rw [if_pos c2] at h; simp at h
      · rw [if_neg c2]
        exact ⟨c, by omega, by omega, rfl⟩
  · rw [if_neg c] at h; simp at h
theorem tNum_no {s : ByteArray} {a : Int} (h : (tNum s a).2.2 ≠ 0) : tNum s a = (0, a, (tNum s a).2.2) := by
  unfold tNum at h ⊢
  by_cases c : okC s a = true
  · rw [if_pos c] at h ⊢
    by_cases c1 : (s.size : Int) - a < 4
    · rw [if_pos c1]
    · rw [if_neg c1] at h ⊢
      by_cases c2 : 2147483647 < b4 s a
      · rw [if_pos c2]
      · rw [if_neg c2] at h; simp at h
  · rw [if_neg c]
theorem okC_next {s : ByteArray} {a : Int} (h : okC s a = true) {n : Int} (h0 : 0 ≤ n) (h1 : a + n ≤ s.size) : okC s (a + n) = true := by
  rw [okC_iff] at h ⊢
  omega
theorem tText_ok {s : ByteArray} {a : Int} (h : (tText s a).2.2 = 0) : (tNum s a).2.2 = 0 ∧ a + 4 + b4 s a ≤ s.size ∧ tText s a = (s.extract (a + 4).toNat (a + 4 + b4 s a).toNat, a + 4 + b4 s a, 0) := by
  unfold tText at h ⊢
  by_cases c : (tNum s a).2.2 = 0
  · rw [if_pos c] at h ⊢
    obtain ⟨h1, h2, _, _⟩ := tNum_ok c
    have h4 := okC_next h1 (n := 4) (by omega) h2
    unfold partS at h ⊢
    simp only [h4, if_true] at h ⊢
    by_cases c1 : (s.size : Int) - (a + 4) < b4 s a
    · rw [if_pos c1] at h; simp at h
    · rw [if_neg c1]
      exact ⟨c, by omega, by simp⟩
  · rw [if_neg c] at h
    exact absurd h c
theorem tText_no {s : ByteArray} {a : Int} (h : (tText s a).2.2 ≠ 0) : tText s a = (⟨#[]⟩, a, (tText s a).2.2) := by
  unfold tText at h ⊢
  by_cases c : (tNum s a).2.2 = 0
  · rw [if_pos c] at h ⊢
    by_cases c1 : (partS s (a + 4) (b4 s a)).2.2 = 0
    · rw [if_pos c1] at h; exact absurd c1 h
    · rw [if_neg c1]
  · rw [if_neg c]
theorem tText_at {s : ByteArray} {a : Int} (h : (tText s a).2.2 = 0) : 0 ≤ a ∧ (tText s a).2.1 = a + 4 + (tText s a).1.size ∧ (tText s a).2.1 ≤ s.size ∧ s.size ≤ 65536 ∧ okC s (tText s a).2.1 = true ∧ ((tText s a).1.size : Int) = b4 s a := by
  obtain ⟨h1, h2, h3⟩ := tText_ok h
  obtain ⟨k1, k2, k3, _⟩ := tNum_ok h1
  have hb := b4_range s a
  have hc := okC_iff.1 k1
  have hs : ((s.extract (a + 4).toNat (a + 4 + b4 s a).toNat).size : Int) = b4 s a := by rw [ByteArray.size_extract]; omega
  rw [h3]
  refine ⟨hc.2.1, ?_, h2, hc.1, okC_iff.2 ⟨hc.1, by simp only; omega, h2⟩, hs⟩
  simp only
  omega
/-- What is taken of texts: as many, and at which place. -/
theorem tTexts_at {s : ByteArray} : ∀ (n : Nat) (a : Int) (out : List ByteArray), (tTexts s n a out).2.2 = 0 → a + 4 * n ≤ (tTexts s n a out).2.1 ∧ (tTexts s n a out).1.length = out.length + n ∧ (a ≤ s.size → (tTexts s n a out).2.1 ≤ s.size) ∧ (okC s a = true → okC s (tTexts s n a out).2.1 = true)
  | 0, a, out, h => by simp [tTexts]
  | n + 1, a, out, h => by
    unfold tTexts at h ⊢
    by_cases c : (tText s a).2.2 = 0
    · rw [if_pos c] at h ⊢
      obtain ⟨g1, g2, g3, g4, g5, g6⟩ := tText_at c
      obtain ⟨k1, k2, k3, k4⟩ := tTexts_at n _ _ h
      refine ⟨by omega, by rw [k2, List.length_append, List.length_singleton]; omega, fun _ => k3 g3, fun _ => k4 g5⟩
    · rw [if_neg c] at h; exact absurd h c
theorem tList_ok {s : ByteArray} {a : Int} (h : (tList s a).2.2 = 0) : (tNum s a).2.2 = 0 ∧ b4 s a ≤ 1000 ∧ (tTexts s (b4 s a).toNat (a + 4) []).2.2 = 0 ∧ tList s a = tTexts s (b4 s a).toNat (a + 4) [] := by
  unfold tList at h ⊢
  by_cases c : (tNum s a).2.2 = 0
  · rw [if_pos c] at h ⊢
    by_cases c1 : 1000 < b4 s a
    · rw [if_pos c1] at h; simp at h
    · rw [if_neg c1] at h ⊢
      by_cases c2 : (tTexts s (b4 s a).toNat (a + 4) []).2.2 = 0
      · rw [if_pos c2]; exact ⟨c, by omega, c2, rfl⟩
      · rw [if_neg c2] at h; exact absurd h c2
  · rw [if_neg c] at h; exact absurd h c
theorem tList_no {s : ByteArray} {a : Int} (h : (tList s a).2.2 ≠ 0) : tList s a = ([], a, (tList s a).2.2) := by
  unfold tList at h ⊢
  by_cases c : (tNum s a).2.2 = 0
  · rw [if_pos c] at h ⊢
    by_cases c1 : 1000 < b4 s a
    · rw [if_pos c1]
    · rw [if_neg c1] at h ⊢
      by_cases c2 : (tTexts s (b4 s a).toNat (a + 4) []).2.2 = 0
      · rw [if_pos c2] at h; exact absurd c2 h
      · rw [if_neg c2]
  · rw [if_neg c]
theorem tList_at {s : ByteArray} {a : Int} (h : (tList s a).2.2 = 0) : 0 ≤ a ∧ a + 4 + 4 * (tList s a).1.length ≤ (tList s a).2.1 ∧ (tList s a).2.1 ≤ s.size ∧ s.size ≤ 65536 ∧ (tList s a).1.length ≤ 1000 ∧ okC s (tList s a).2.1 = true ∧ ((tList s a).1.length : Int) = b4 s a := by
  obtain ⟨h1, h2, h3, h4⟩ := tList_ok h
  obtain ⟨k1, k2, k3, _⟩ := tNum_ok h1
  have hc := okC_iff.1 k1
  have hb := b4_range s a
  obtain ⟨g1, g2, g3, g4⟩ := tTexts_at _ _ _ h3
  rw [h4]
  rw [List.length_nil] at g2
  have h5 := okC_next k1 (n := 4) (by omega) k2
  exact ⟨hc.2.1, by rw [g2]; omega, g3 k2, hc.1, by rw [g2]; omega, g4 h5, by rw [g2]; omega⟩
end Go.Proofs.YtbigcojlpcchiaaGreat.Sy

namespace Go.Proofs.YtbigcojlpcchiaaGreat.Sy
open Go Go.RowKit
set_option linter.unusedVariables false
set_option linter.unusedSimpArgs false
set_option maxRecDepth 10000
set_option maxHeartbeats 4000000
abbrev curP (s : ByteArray) (a : Int) : PV := .agg [.val (.string s), .val (.int .i64 a)]
abbrev eN (e : Int) : PV := .val (.int .i64 e)
theorem u8w' {n : Int} (h0 : 0 ≤ n) (h : n < 256) : IntKind.u8.wrap n = n := by rw [IntKind.wrap_u8]; omega
theorem u8m (n : Int) : IntKind.u8.wrap n = n % 256 := IntKind.wrap_u8 n
theorem Number_call {n : Int} (hn : isI64 n) : CallOk Tryz.prog 91 [.val (.int .i64 n)] [] (.tup [.val (.string (numE n).1), eN (numE n).2]) [] := by
  refine .of_exec Tryz.func91 rfl (enters_91) rfl rfl (Nat.le_of_ble_eq_true rfl) (fun n _ => rfl) ?_
  by_cases h : n < 0 ∨ 2147483647 < n
  · have hb : (decide (n < 0) || decide (2147483647 < n)) = true := by simpa using h
    have e : numE n = (⟨#[]⟩, 1) := if_pos h
    simp [hb]
    exact .plain (by simp) (by simp [e])
  · have h1 : ¬ n < 0 := fun c => h (.inl c)
    have h2 : ¬ 2147483647 < n := fun c => h (.inr c)
    have e : numE n = (numS n, 0) := if_neg h
    have k1 : IntKind.u8.wrap (n.fdiv 16777216) = n / 16777216 := by rw [u8m, Int.fdiv_eq_ediv_of_nonneg _ (by omega)]; omega
    have k2 : IntKind.u8.wrap (n.fdiv 65536) = n / 65536 % 256 := by rw [u8m, Int.fdiv_eq_ediv_of_nonneg _ (by omega)]
    have k3 : IntKind.u8.wrap (n.fdiv 256) = n / 256 % 256 := by rw [u8m, Int.fdiv_eq_ediv_of_nonneg _ (by omega)]
    have k4 : IntKind.u8.wrap n = n % 256 := u8m n
    have m4 : 4 ≤ maxLen := by decide
    have hS : strOfNums [n / 16777216, n / 65536 % 256, n / 256 % 256, n % 256] = numS n := rfl
    have b64 : IntKind.i64.bits = 64 := rfl
    simp [h1, h2, b64, k1, k2, k3, k4, m4, numsOf, hS]
    exact .plain (by simp) (by simp [e])
theorem refnumber_call {n : Int} (hn : isI64 n) : CallOk Tryz.prog 72 [.val (.int .i64 n)] [] (.tup [.val (.string (numE n).1), eN (numE n).2]) [] := by
  refine .of_exec Tryz.func72 rfl (enters_72) rfl rfl (Nat.le_of_ble_eq_true rfl) (fun n _ => rfl) ?_
  by_cases h : n < 0 ∨ 2147483647 < n
  · have hb : (decide (n < 0) || decide (2147483647 < n)) = true := by simpa using h
    have e : numE n = (⟨#[]⟩, 1) := if_pos h
    simp [hb]
    exact .plain (by simp) (by simp [e])
  · have h1 : ¬ n < 0 := fun c => h (.inl c)
    have h2 : ¬ 2147483647 < n := fun c => h (.inr c)
    have e : numE n = (numS n, 0) := if_neg h
    have k1 : IntKind.u8.wrap (IntKind.i64.wrap (n.tdiv 16777216)) = n / 16777216 := by rw [Int.tdiv_eq_ediv_of_nonneg (by omega), w64 (by omega) (by omega), u8m]; omega
    have k2 : IntKind.u8.wrap ((IntKind.i64.wrap (n.tdiv 65536)).tmod 256) = n / 65536 % 256 := by rw [Int.tdiv_eq_ediv_of_nonneg (by omega), w64 (by omega) (by omega), Int.tmod_eq_emod_of_nonneg (by omega), u8m]; omega
    have k3 : IntKind.u8.wrap ((IntKind.i64.wrap (n.tdiv 256)).tmod 256) = n / 256 % 256 := by rw [Int.tdiv_eq_ediv_of_nonneg (by omega), w64 (by omega) (by omega), Int.tmod_eq_emod_of_nonneg (by omega), u8m]; omega
    have k4 : IntKind.u8.wrap (n.tmod 256) = n % 256 := by rw [Int.tmod_eq_emod_of_nonneg (by omega), u8m]; omega
    have m4 : 4 ≤ maxLen := by decide
    have hS : strOfNums [n / 16777216, n / 65536 % 256, n / 256 % 256, n % 256] = numS n := rfl
    simp [h1, h2, k1, k2, k3, k4, m4, numsOf, hS]
    exact .plain (by simp) (by simp [e])
theorem Text_call {s : ByteArray} (hs : s.size ≤ maxLen) : CallOk Tryz.prog 136 [.val (.string s)] [] (.tup [.val (.string (textE s).1), eN (textE s).2]) [] := by
  refine .of_exec Tryz.func136 rfl (enters_136) rfl rfl (Nat.le_of_ble_eq_true rfl) (fun n _ => rfl) ?_
  unfold maxLen at hs
  by_cases h : 65536 < s.size
  · have e : textE s = (⟨#[]⟩, 2) := if_pos h
    have h' : (65536 : Int) < s.size := by omega
    simp [h, h']
    exact .plain (by simp) (by simp [e])
  · have e : textE s = (numS s.size ++ s, 0) := if_neg h
    have h' : ¬ (65536 : Int) < s.size := by omega
    have e2 : numE s.size = (numS s.size, 0) := if_neg (by omega)
    have cn := Number_call (n := (s.size : Int)) ⟨by omega, by omega⟩
    rw [e2] at cn
    simp [h, h']
    refine .plain cn (by simp) (by simp) ?_
    have hz : 4 + s.size ≤ 9223372036854775807 := by omega
    simp [numS_size]
    exact ⟨hz, fun _ => .plain (by simp) (by simp [e])⟩
theorem reftext_call {s : ByteArray} (hs : s.size ≤ maxLen) : CallOk Tryz.prog 97 [.val (.string s)] [] (.tup [.val (.string (textE s).1), eN (textE s).2]) [] := by
  refine .of_exec Tryz.func97 rfl (enters_97) rfl rfl (Nat.le_of_ble_eq_true rfl) (fun n _ => rfl) ?_
  unfold maxLen at hs
  by_cases h : 65536 < s.size
  · have e : textE s = (⟨#[]⟩, 2) := if_pos h
    have h' : (65536 : Int) < s.size := by omega
    simp [h, h']
    exact .plain (by simp) (by simp [e])
  · have e : textE s = (numS s.size ++ s, 0) := if_neg h
    have h' : ¬ (65536 : Int) < s.size := by omega
    have e2 : numE s.size = (numS s.size, 0) := if_neg (by omega)
    have cn := refnumber_call (n := (s.size : Int)) ⟨by omega, by omega⟩
    rw [e2] at cn
    simp [h, h']
    refine .plain cn (by simp) (by simp) ?_
    have hz : 4 + s.size ≤ 9223372036854775807 := by omega
    simp [numS_size]
    exact ⟨hz, fun _ => .plain (by simp) (by simp [e])⟩
theorem cright_call (s : ByteArray) (a : Int) : CallOk Tryz.prog 126 [curP s a] [] (.val (.bool (okC s a))) [] := by
  refine .of_exec Tryz.func126 rfl (enters_126) rfl rfl (Nat.le_of_ble_eq_true rfl) (fun n _ => rfl) ?_
  simp
  exact .plain (by simp) (by simp [okC])
theorem cpart_call (s : ByteArray) {a n : Int} (hn : 0 ≤ n ∧ n ≤ 4294967295) : CallOk Tryz.prog 98 [curP s a, .val (.int .i64 n)] [] (.tup [.val (.string (partS s a n).1), curP s (partS s a n).2.1, eN (partS s a n).2.2]) [] := by
  refine .of_exec Tryz.func98 rfl (enters_98) rfl rfl (Nat.le_of_ble_eq_true rfl) (fun n _ => rfl) ?_
  simp
  refine .plain (cright_call s a) (by simp) (by simp) ?_
  cases h : okC s a with
  | false =>
    have e : partS s a n = (⟨#[]⟩, a, 1) := by unfold partS; rw [if_neg (by rw [h]; simp)]
    simp
    exact ⟨rfl, .plain (by simp) (by simp [e])⟩
  | true =>
    have hc := okC_iff.1 h
    have w1 : IntKind.i64.wrap ((s.size : Int) - a) = s.size - a := w64 (by omega) (by omega)
    by_cases h2 : (s.size : Int) - a < n
    · have e : partS s a n = (⟨#[]⟩, a, 10) := by unfold partS; rw [if_pos h, if_pos h2]
      simp [w1, h2]
      exact ⟨rfl, .plain (by simp) (by simp [e])⟩
    · have e : partS s a n = (s.extract a.toNat (a + n).toNat, a + n, 0) := by unfold partS; rw [if_pos h, if_neg h2]
      have w2 : IntKind.i64.wrap (a + n) = a + n := w64 (by omega) (by omega)
      have hx : (s.extract a.toNat s.size).extract 0 n.toNat = s.extract a.toNat (a + n).toNat := by
        rw [ByteArray.extract_extract]
        congr 1
        omega
      have b1 : 0 ≤ a ∧ a ≤ (s.size : Int) := by omega
      have b2 : 0 ≤ n ∧ n ≤ ((s.size - a.toNat : Nat) : Int) := by omega
      simp [w1, w2, h2]
      refine ⟨b1, fun _ _ => ⟨b2, fun _ _ => ⟨rfl, ?_⟩⟩⟩
      rw [hx]
      exact .plain (by simp) (by simp [e])
end Go.Proofs.YtbigcojlpcchiaaGreat.Sy

namespace Go.Proofs.YtbigcojlpcchiaaGreat.Sy
open Go Go.RowKit
set_option linter.unusedVariables false
set_option linter.unusedSimpArgs false
set_option maxRecDepth 10000
set_option maxHeartbeats 4000000
theorem or_step10 {v b : Int} (hv : 0 ≤ v ∧ v < 16777216) (hb : 0 ≤ b ∧ b < 256) :
    IntKind.i64.wrap (((IntKind.i64.wrap (v * 2 ^ min 8 IntKind.i64.bits) % 2 ^ IntKind.i64.bits).toNat ||| (IntKind.i64.wrap b % 2 ^ IntKind.i64.bits).toNat : Nat) : Int) = v * 256 + b := by
  have b64 : IntKind.i64.bits = 64 := rfl
  obtain ⟨v, rfl⟩ : ∃ k : Nat, v = k := ⟨v.toNat, by omega⟩
  obtain ⟨b, rfl⟩ : ∃ k : Nat, b = k := ⟨b.toNat, by omega⟩
  have h1 : IntKind.i64.wrap ((v : Int) * 2 ^ min 8 IntKind.i64.bits) = (v : Int) * 256 := by rw [b64]; simp; exact w64 (by omega) (by omega)
  have h2 : IntKind.i64.wrap (b : Int) = b := w64 (by omega) (by omega)
  rw [h1, h2, b64]
  have e1 : ((v : Int) * 256 % 2 ^ 64).toNat = v <<< 8 := by rw [Nat.shiftLeft_eq]; omega
  have e2 : ((b : Int) % 2 ^ 64).toNat = b := by omega
  rw [e1, e2, ← Nat.shiftLeft_add_eq_or_of_lt (by omega : b < 2 ^ 8), Nat.shiftLeft_eq, w64 (by omega) (by omega)]
  omega
/-- The first bytes as a number. -/
def bN (s : ByteArray) : Nat → Int
  | 0 => 0
  | i + 1 => bN s i * 256 + btv s i
theorem bN_range (s : ByteArray) : ∀ i, 0 ≤ bN s i ∧ bN s i < 256 ^ i
  | 0 => by simp [bN]
  | i + 1 => by
    have := bN_range s i
    have hb := btv_range s i
    rw [Int.pow_succ]
    simp only [bN]
    omega
theorem btv_extract {s : ByteArray} {a b j : Nat} (hb : b ≤ s.size) (hj : a + j < b) : btv (s.extract a b) (j : Int) = btv s ((a + j : Nat) : Int) := by
  unfold btv
  congr 2
  simp only [Int.toNat_natCast, List.getD_eq_getElem?_getD, Array.getElem?_toList, ByteArray.data_extract, Array.getElem?_extract]
  rw [if_pos (by have : s.size = s.data.size := rfl; omega)]
theorem bN4 {s : ByteArray} {a : Int} (h0 : 0 ≤ a) (h : a + 4 ≤ s.size) : bN (s.extract a.toNat (a + 4).toNat) 4 = b4 s a := by
  obtain ⟨k, rfl⟩ : ∃ k : Nat, a = k := ⟨a.toNat, by omega⟩
  have e : ((k : Int) + 4).toNat = k + 4 := by omega
  rw [e, Int.toNat_natCast]
  have g : ∀ j : Nat, j < 4 → btv (s.extract k (k + 4)) (j : Int) = btv s ((k : Int) + j) := fun j hj => by
    rw [btv_extract (by omega) (by omega)]; congr 1
  have g0 : btv (s.extract k (k + 4)) 0 = btv s k := by have := g 0 (by omega); simpa using this
  have g1 : btv (s.extract k (k + 4)) 1 = btv s (k + 1) := by have := g 1 (by omega); simpa using this
  have g2 : btv (s.extract k (k + 4)) 2 = btv s (k + 2) := by have := g 2 (by omega); simpa using this
  have g3 : btv (s.extract k (k + 4)) 3 = btv s (k + 3) := by have := g 3 (by omega); simpa using this
  have e4 : bN (s.extract k (k + 4)) 4 = ((btv (s.extract k (k + 4)) 0 * 256 + btv (s.extract k (k + 4)) 1) * 256 + btv (s.extract k (k + 4)) 2) * 256 + btv (s.extract k (k + 4)) 3 := by simp [bN]
  rw [e4, g0, g1, g2, g3]
  rfl
def num_inv (s : ByteArray) (a : Int) (x : ByteArray) (m : Nat) (st : St) : Prop := ∃ i : Nat, m = 4 - i ∧ i ≤ 4 ∧
  st = ⟨39, [(24, .val (.int .i64 i)), (23, .val (.int .i64 4)), (22, .rd 1 (brow x)), (8, .val (.int .i64 (bN x i))), (6, .ref 80 2 0 0), (3, .ref 72 2 0 0), (1, .ref 64 2 0 0)],
    [(64, ⟨84, 2, [[.val (.string s), .val (.int .i64 a)]], .cells⟩), (72, ⟨84, 2, [[.val (.string ⟨#[]⟩), .val (.int .i64 0)]], .cells⟩), (80, ⟨84, 2, [[.val (.string s), .val (.int .i64 (a + 4))]], .cells⟩)], 88⟩
theorem TakeNumber_call (s : ByteArray) (a : Int) : CallOk Tryz.prog 76 [curP s a] [] (.tup [.val (.int .i64 (tNum s a).1), curP s (tNum s a).2.1, eN (tNum s a).2.2]) [] := by
  refine .of_exec Tryz.func76 rfl (enters_76) rfl rfl (Nat.le_of_ble_eq_true rfl) (fun n _ => rfl) ?_
  simp
  refine .plain (cpart_call s (a := a) (n := 4) (by omega)) (by simp) (by simp) ?_
  cases h : okC s a with
  | false =>
    have e : tNum s a = (0, a, 1) := by unfold tNum; rw [if_neg (by rw [h]; simp)]
    have e2 : partS s a 4 = (⟨#[]⟩, a, 1) := by unfold partS; rw [if_neg (by rw [h]; simp)]
    simp [e2]
    exact ⟨rfl, .plain (by simp) (by simp [e])⟩
  | true =>
    have hc := okC_iff.1 h
    by_cases h2 : (s.size : Int) - a < 4
    · have e : tNum s a = (0, a, 10) := by unfold tNum; rw [if_pos h, if_pos h2]
      have e2 : partS s a 4 = (⟨#[]⟩, a, 10) := by unfold partS; rw [if_pos h, if_pos h2]
      simp [e2]
      exact ⟨rfl, .plain (by simp) (by simp [e])⟩
    · have e2 : partS s a 4 = (s.extract a.toNat (a + 4).toNat, a + 4, 0) := by unfold partS; rw [if_pos h, if_neg h2]
      obtain ⟨x, hx⟩ : ∃ x, x = s.extract a.toNat (a + 4).toNat := ⟨_, rfl⟩
      have hxs : x.size = 4 := by rw [hx, ByteArray.size_extract]; omega
      have hb := bN4 hc.2.1 (show a + 4 ≤ (s.size : Int) by omega)
      rw [← hx] at e2 hb
      simp [e2]
      refine WPg.loopW (num_inv s a x) ⟨4, _, ?_, ⟨0, by simp, by simp, rfl⟩⟩ ?_
      · exact Wk.rn [(64, 64), (80, 72), (144, 80)] rfl (by simp) (by simp [bN, hxs]) (by simp)
      rintro m st ⟨i, h1, h3, rfl⟩
      by_cases hi : i < 4
      · have hi' : (i : Int) < 4 := by omega
        have hv : 0 ≤ bN x i ∧ bN x i < 16777216 := by
          have := bN_range x i
          have hp := (by decide : ∀ j : Nat, j < 4 → (256 : Int) ^ j ≤ 16777216) i hi
          omega
        have hstep := or_step10 hv (btv_range x i)
        have hw : IntKind.i64.wrap ((i : Int) + 1) = ((i + 1 : Nat) : Int) := by rw [w64 (by omega) (by omega)]; omega
        simp [hi, hi', hxs, hstep]
        refine ⟨4 - (i + 1), by omega, _, ?_, ⟨i + 1, rfl, by omega, rfl⟩⟩
        rw [hw]
        exact Wk.rn [(64, 64), (72, 72), (80, 80)] rfl (by simp) (by simp; rfl) (by simp)
      · obtain rfl : i = 4 := by omega
        by_cases h4 : 2147483647 < b4 s a
        · have e : tNum s a = (0, a, 13) := by unfold tNum; rw [if_pos h, if_neg h2, if_pos h4]
          simp [hb, h4]
          exact ⟨rfl, .plain (by simp) (by simp [e])⟩
        · have e : tNum s a = (b4 s a, a + 4, 0) := by unfold tNum; rw [if_pos h, if_neg h2, if_neg h4]
          simp [hb, h4]
          exact ⟨rfl, .plain (by simp) (by simp [e])⟩
theorem TakeText_call (s : ByteArray) (a : Int) : CallOk Tryz.prog 101 [curP s a] [] (.tup [.val (.string (tText s a).1), curP s (tText s a).2.1, eN (tText s a).2.2]) [] := by
  refine .of_exec Tryz.func101 rfl (enters_101) rfl rfl (Nat.le_of_ble_eq_true rfl) (fun n _ => rfl) ?_
  have hm : CallOk Tryz.prog 127 [curP s a, .clo 98 []] [] (.tup [.val (.string (tText s a).1), curP s (tText s a).2.1, eN (tText s a).2.2]) [] := by
    refine .of_exec Tryz.func127 rfl (enters_127) rfl rfl (Nat.le_of_ble_eq_true rfl) (fun n _ => rfl) ?_
    simp
    refine .plain (TakeNumber_call s a) (by simp) (by simp) ?_
    by_cases h : (tNum s a).2.2 = 0
    · obtain ⟨k1, k2, k3, k4⟩ := tNum_ok h
      have hb := b4_range s a
      simp [k4]
      refine .plain (cpart_call s (a := a + 4) (n := b4 s a) hb) (by simp) (by simp) ?_
      by_cases h2 : (partS s (a + 4) (b4 s a)).2.2 = 0
      · have e : tText s a = partS s (a + 4) (b4 s a) := by unfold tText; rw [if_pos h, if_pos h2]
        simp [h2]
        exact ⟨rfl, .plain (by simp) (by simp [e, h2])⟩
      · have e : tText s a = (⟨#[]⟩, a, (partS s (a + 4) (b4 s a)).2.2) := by unfold tText; rw [if_pos h, if_neg h2]
        simp [h2]
        exact ⟨rfl, .plain (by simp) (by simp [e, h2])⟩
    · have e : tText s a = (⟨#[]⟩, a, (tNum s a).2.2) := by unfold tText; rw [if_neg h]
      simp [h]
      exact ⟨rfl, .plain (by simp) (by simp [e, h])⟩
  simp
  refine .plain hm (by simp) (by simp) ?_
  simp
  exact .plain (by simp) (by simp)
end Go.Proofs.YtbigcojlpcchiaaGreat.Sy

namespace Go.Proofs.YtbigcojlpcchiaaGreat.Sy
open Go Go.RowKit
set_option linter.unusedVariables false
set_option linter.unusedSimpArgs false
set_option maxRecDepth 10000
set_option maxHeartbeats 4000000
theorem clip_call0 : CallOk Tryz.prog 102 [.rd 1 []] [] .nl [] := by
  refine .of_exec Tryz.func102 rfl (enters_102) rfl rfl (Nat.le_of_ble_eq_true rfl) (fun n _ => rfl) ?_
  simp
  exact .plain (by simp) (by simp)
theorem clip_own {l : List ByteArray} (h : l ≠ []) (hl : l.length ≤ 1000000) : CallOk Tryz.prog 102 [.sl 0 1 0 l.length] [(0, ⟨9, 1, strs l, .cells⟩)] (.sl 0 1 0 l.length) [(0, ⟨9, 1, strs l, .cells⟩)] := by
  refine .of_exec Tryz.func102 rfl (enters_102) rfl rfl (Nat.le_of_ble_eq_true rfl) (fun n h => by rw [lookO, if_neg (by omega)]; rfl) ?_
  simp
  exact .own [(0, 0)] (by simp) (by simp) (by simp) (by simp) (by simp)
def lstS (s : ByteArray) (a n : Int) : List ByteArray × Int × Int := if 1000 < n then ([], a, 13) else tTexts s n.toNat a []
def lst_inv (s : ByteArray) (a : Int) (N : Nat) (m : Nat) (st : St) : Prop := ∃ (i : Nat) (d : Int) (out : List ByteArray), m = N - i ∧ i ≤ N ∧ out.length = i ∧ tTexts s N a [] = tTexts s (N - i) d out ∧
  st = ⟨35, [(14, .val (.int .i64 i)), (13, .val (.int .i64 N)), (5, .ref 72 2 0 0), (4, .sl 80 1 0 out.length), (2, .ref 64 2 0 0)],
    [(64, ⟨84, 2, [[.val (.string s), .val (.int .i64 d)]], .cells⟩), (72, ⟨84, 2, [[.val (.string ⟨#[]⟩), .val (.int .i64 0)]], .cells⟩), (80, ⟨9, 1, strs out, .cells⟩)], 88⟩
theorem lst_call (s : ByteArray) {a n : Int} (hn : 0 ≤ n ∧ n ≤ 4294967295) : CallOk Tryz.prog 100 [curP s a, .val (.int .i64 n)] [] (.tup [.rd 1 (strs (lstS s a n).1), curP s (lstS s a n).2.1, eN (lstS s a n).2.2]) [] := by
  refine .of_exec Tryz.func100 rfl (enters_100) rfl rfl (Nat.le_of_ble_eq_true rfl) (fun n _ => rfl) ?_
  by_cases h : 1000 < n
  · have e : lstS s a n = ([], a, 13) := if_pos h
    simp [h]
    refine ⟨rfl, ?_⟩
    exact .wk _ (Wk.nilRd 1 [(4, .rd 1 []), (5, .ref 80 2 0 0), (6, .val (.int .i64 13))] (by simp)) (by simp) (by simp [e, strs_nil])
  · obtain ⟨N, rfl⟩ : ∃ N : Nat, n = N := ⟨n.toNat, by omega⟩
    have e : lstS s a N = tTexts s N a [] := by unfold lstS; rw [if_neg h]; rfl
    have hN : N ≤ 1000 := by omega
    simp [h]
    refine WPg.loopW (lst_inv s a N) ⟨N, _, ?_, ⟨0, a, [], by simp, by simp, rfl, rfl, rfl⟩⟩ ?_
    · refine (Wk.nil [4] [] 9 1).trans ?_
      exact Wk.rn [(64, 64), (80, 72), (128, 80)] rfl (by simp) (by simp) (by simp [strs_nil])
    rintro m st ⟨i, d, out, h1, h2, h3, h4, rfl⟩
    by_cases hi : i < N
    · have hi' : (i : Int) < N := by omega
      have hw : IntKind.i64.wrap ((i : Int) + 1) = ((i + 1 : Nat) : Int) := by rw [w64 (by omega) (by omega)]; omega
      have hs : N - i = (N - (i + 1)) + 1 := by omega
      rw [hs, show tTexts s (N - (i + 1) + 1) d out = if (tText s d).2.2 = 0 then tTexts s (N - (i + 1)) (tText s d).2.1 (out ++ [(tText s d).1]) else ([], d, (tText s d).2.2) from rfl] at h4
      simp [hi, hi']
      refine .plain (TakeText_call s d) (by simp) (by simp) ?_
      by_cases h5 : (tText s d).2.2 = 0
      · rw [if_pos h5] at h4
        have b1 : out.length ≤ 140737488355327 ∧ (out.length + 1) * 16 ≤ 140737488355328 := by omega
        have m1 : 1 ≤ maxLen := by decide
        simp [h5, m1]
        refine ⟨b1, fun _ _ => ⟨rfl, N - (i + 1), by omega, _, ?_, ⟨i + 1, (tText s d).2.1, out ++ [(tText s d).1], rfl, by omega, by simp [h3], h4, rfl⟩⟩⟩
        rw [hw]
        exact Wk.rn [(64, 64), (72, 72), (216, 80)] rfl (by simp) (by simp) (by simp)
      · rw [if_neg h5] at h4
        simp [h5]
        refine ⟨rfl, ?_⟩
        exact .wk _ (Wk.nilRd 1 [(4, .rd 1 []), (5, .ref 72 2 0 0), (6, .val (.int .i64 (tText s d).2.2))] (by simp)) (by simp) (by simp [e, h4, strs_nil])
    · obtain rfl : i = N := by omega
      rw [Nat.sub_self, show tTexts s 0 d out = (out, d, 0) from rfl] at h4
      simp
      by_cases ho : out = []
      · subst ho
        refine callT.own [80] [] clip_call0 (by simp [strs_nil]) (by simp) (by simp) (by simp) (by simp) (by simp) (by simp) (by simp) (by simp) (by simp) ?_
        simp
        refine ⟨rfl, ?_⟩
        exact .wk _ (Wk.nilRd 1 [(4, .rd 1 []), (5, .ref 72 2 0 0), (6, .val (.int .i64 0))] (by simp)) (by simp) (by simp [e, h4, strs_nil])
      · refine callT.own [] [(80, 0)] (clip_own (l := out) ho (by omega)) (by simp) (by simp) (by simp) (by simp) (by simp) (by simp [ho]) (by simp) (by simp) (by simp) (by simp) ?_
        simp
        refine ⟨rfl, ?_⟩
        exact .frz [80] [4, 5, 6] (by simp) (by simp) (by simp) (by simp) (by simp [e, h4])
theorem cend_call (s : ByteArray) (a : Int) : CallOk Tryz.prog 103 [curP s a] [] (eN (endC s a)) [] := by
  refine .of_exec Tryz.func103 rfl (enters_103) rfl rfl (Nat.le_of_ble_eq_true rfl) (fun n _ => rfl) ?_
  simp
  refine .plain (cright_call s a) (by simp) (by simp) ?_
  cases h : okC s a with
  | false =>
    have e : endC s a = 1 := by unfold endC; rw [if_neg (by rw [h]; simp)]
    simp
    exact .plain (by simp) (by simp [e])
  | true =>
    by_cases h2 : a < s.size
    · have e : endC s a = 13 := by unfold endC; rw [if_pos h, if_pos h2]
      simp [h2]
      exact .plain (by simp) (by simp [e])
    · have e : endC s a = 0 := by unfold endC; rw [if_pos h, if_neg h2]
      simp [h2]
      exact .plain (by simp) (by simp [e])
end Go.Proofs.YtbigcojlpcchiaaGreat.Sy

namespace Go.Proofs.YtbigcojlpcchiaaGreat.Sy
open Go Go.RowKit
set_option linter.unusedVariables false
set_option linter.unusedSimpArgs false
set_option maxRecDepth 10000
set_option maxHeartbeats 4000000
theorem TakeList_call (s : ByteArray) (a : Int) : CallOk Tryz.prog 78 [curP s a] [] (.tup [.rd 1 (strs (tList s a).1), curP s (tList s a).2.1, eN (tList s a).2.2]) [] := by
  refine .of_exec Tryz.func78 rfl (enters_78) rfl rfl (Nat.le_of_ble_eq_true rfl) (fun n _ => rfl) ?_
  have hm : CallOk Tryz.prog 99 [curP s a, .clo 100 []] [] (.tup [.rd 1 (strs (tList s a).1), curP s (tList s a).2.1, eN (tList s a).2.2]) [] := by
    refine .of_exec Tryz.func99 rfl (enters_99) rfl rfl (Nat.le_of_ble_eq_true rfl) (fun n _ => rfl) ?_
    simp
    refine .plain (TakeNumber_call s a) (by simp) (by simp) ?_
    by_cases h : (tNum s a).2.2 = 0
    · obtain ⟨k1, k2, k3, k4⟩ := tNum_ok h
      have hb := b4_range s a
      simp [k4]
      refine .plain (lst_call s (a := a + 4) (n := b4 s a) hb) (by simp) (by simp) ?_
      by_cases h1 : 1000 < b4 s a
      · have e2 : lstS s (a + 4) (b4 s a) = ([], a + 4, 13) := if_pos h1
        have e : tList s a = ([], a, 13) := by unfold tList; rw [if_pos h, if_pos h1]
        simp [e2]
        refine ⟨rfl, ?_⟩
        exact .wk _ (Wk.nilRd 1 [(4, .rd 1 []), (5, .ref 80 2 0 0), (6, .val (.int .i64 13))] (by simp)) (by simp) (by simp [e, strs_nil])
      · have e2 : lstS s (a + 4) (b4 s a) = tTexts s (b4 s a).toNat (a + 4) [] := if_neg h1
        by_cases h2 : (tTexts s (b4 s a).toNat (a + 4) []).2.2 = 0
        · have e : tList s a = tTexts s (b4 s a).toNat (a + 4) [] := by unfold tList; rw [if_pos h, if_neg h1, if_pos h2]
          simp [e2, h2]
          exact ⟨rfl, .plain (by simp) (by simp [e, h2])⟩
        · have e : tList s a = ([], a, (tTexts s (b4 s a).toNat (a + 4) []).2.2) := by unfold tList; rw [if_pos h, if_neg h1, if_neg h2]
          simp [e2, h2]
          refine ⟨rfl, ?_⟩
          exact .wk _ (Wk.nilRd 1 [(4, .rd 1 []), (5, .ref 80 2 0 0), (6, .val (.int .i64 (tTexts s (b4 s a).toNat (a + 4) []).2.2))] (by simp)) (by simp) (by simp [e, strs_nil])
    · have e : tList s a = ([], a, (tNum s a).2.2) := by unfold tList; rw [if_neg h]
      simp [h]
      refine ⟨rfl, ?_⟩
      exact .wk _ (Wk.nilRd 1 [(4, .rd 1 []), (5, .ref 80 2 0 0), (6, .val (.int .i64 (tNum s a).2.2))] (by simp)) (by simp) (by simp [e, strs_nil])
  simp
  refine .plain hm (by simp) (by simp) ?_
  simp
  exact .plain (by simp) (by simp)
def reflist_inv (l : List ByteArray) (m : Nat) (st : St) : Prop := ∃ (i : Nat) (acc : ByteArray), m = l.length - i ∧ i ≤ l.length ∧ acc.size ≤ 65536 ∧ listR l (numS l.length) = listR (l.drop i) acc ∧
  st = ⟨46, [(6, .val (.int .i64 i)), (4, .val (.string acc)), (0, .rd 1 (strs l))], [], 64⟩
theorem listR_cons (x : ByteArray) (r : List ByteArray) (acc : ByteArray) : listR (x :: r) acc = if 65536 < x.size ∨ 65536 < acc.size + (4 + x.size) then none else listR r (acc ++ (numS x.size ++ x)) := rfl
theorem reflist_call {l : List ByteArray} (hl : l.length ≤ maxLen) (hs : ∀ x ∈ l, x.size ≤ maxLen) : CallOk Tryz.prog 73 [.rd 1 (strs l)] [] (.tup [.val (.string (listE l).1), eN (listE l).2]) [] := by
  refine .of_exec Tryz.func73 rfl (enters_73) rfl rfl (Nat.le_of_ble_eq_true rfl) (fun n _ => rfl) ?_
  unfold maxLen at hl
  by_cases h : 1000 < l.length
  · have e : listE l = (⟨#[]⟩, 2) := if_pos h
    have h' : (1000 : Int) < l.length := by omega
    simp [h, h']
    exact .plain (by simp) (by simp [e])
  · have h' : ¬ (1000 : Int) < l.length := by omega
    have e1 : listE l = match listR l (numS l.length) with
      | some b => (b, 0)
      | none => (⟨#[]⟩, 2) := if_neg h
    have e2 : numE l.length = (numS l.length, 0) := if_neg (by omega)
    have cn := refnumber_call (n := (l.length : Int)) ⟨by omega, by omega⟩
    rw [e2] at cn
    simp [h, h']
    refine .plain cn (by simp) (by simp) ?_
    simp
    refine WPg.loopW (reflist_inv l) ⟨l.length, _, ?_, ⟨0, numS l.length, by simp, by simp, by rw [numS_size]; omega, rfl, rfl⟩⟩ ?_
    · exact Wk.rn [] rfl (by simp) (by simp) (by simp)
    rintro m st ⟨i, acc, h1, h2, h3, h4, rfl⟩
    by_cases hi : i < l.length
    · have hi' : (i : Int) < l.length := by omega
      have hw : IntKind.i64.wrap ((i : Int) + 1) = ((i + 1 : Nat) : Int) := by rw [w64 (by omega) (by omega)]; omega
      obtain ⟨x, hx⟩ : ∃ x, l[i] = x := ⟨_, rfl⟩
      have hxs : x.size ≤ maxLen := hs x (by rw [← hx]; exact List.getElem_mem hi)
      have hxs' := hxs
      unfold maxLen at hxs'
      rw [List.drop_eq_getElem_cons hi, hx, listR_cons] at h4
      simp [hi, hi', hx]
      refine .plain (reftext_call hxs) (by simp) (by simp) ?_
      by_cases c1 : 65536 < x.size
      · have et : textE x = (⟨#[]⟩, 2) := if_pos c1
        rw [if_pos (.inl c1)] at h4
        rw [h4] at e1
        simp [et]
        exact .plain (by simp) (by simp [e1])
      · have et : textE x = (numS x.size ++ x, 0) := if_neg c1
        have w1 : IntKind.i64.wrap ((acc.size : Int) + (4 + (x.size : Int))) = ((acc.size + (4 + x.size) : Nat) : Int) := by rw [w64 (by omega) (by omega)]; omega
        by_cases c2 : 65536 < acc.size + (4 + x.size)
        · have c2' : (65536 : Int) < acc.size + (4 + x.size) := by omega
          rw [if_pos (.inr c2)] at h4
          rw [h4] at e1
          simp [et, numS_size, w1, c2, c2']
          exact .plain (by simp) (by simp [e1])
        · have c2' : ¬ (65536 : Int) < acc.size + (4 + x.size) := by omega
          rw [if_neg (fun c => c.elim c1 c2)] at h4
          have hz : acc.size + (4 + x.size) ≤ 9223372036854775807 := by omega
          simp [et, numS_size, w1, c2, c2']
          refine ⟨hz, fun _ => ⟨l.length - (i + 1), by omega, _, ?_, ⟨i + 1, acc ++ (numS x.size ++ x), rfl, by omega, by simp [numS_size]; omega, h4, rfl⟩⟩⟩
          rw [hw]
          exact Wk.rn [] rfl (by simp) (by simp) (by simp)
    · obtain rfl : i = l.length := by omega
      rw [List.drop_length] at h4
      rw [h4] at e1
      simp
      exact .plain (by simp) (by simp [e1, listR])
end Go.Proofs.YtbigcojlpcchiaaGreat.Sy

namespace Go.Proofs.YtbigcojlpcchiaaGreat.Sy
open Go Go.RowKit
set_option linter.unusedVariables false
set_option linter.unusedSimpArgs false
set_option maxRecDepth 10000
set_option maxHeartbeats 4000000
def clist_inv (l : List ByteArray) (tm : Array Value) (fid : FuncId) (dfs : Nat) (A B : Code) (m : Nat) (st : St) : Prop := ∃ (i : Nat) (acc : ByteArray) (nm : Nat), (nm = 185 ∨ nm = 240) ∧ m = l.length - i ∧ i ≤ l.length ∧ 0 < acc.size ∧ acc.size ≤ 65536 ∧ listR l (numS l.length) = listR (l.drop i) acc ∧
  st = ⟨25, [(9, .val (.int .i64 i)), (8, .val (.int .i64 l.length)), (7, .rd 1 (strs l)), (0, .yld 232)],
    [(232, ⟨0, 0, [], .loop ⟨33, [(4, .ref 104 2 0 0), (3, .ref 72 1 0 0), (2, .ref 64 1 0 0)], tm, fid, #[22, 23], A, B, dfs, .ready, none⟩⟩), (104, bldO (.ref 104 2 0 0) (.sl nm 1 0 acc.size)), (nm, bytO acc), (72, ⟨34, 1, [[.val (.int .i64 0)]], .cells⟩), (64, ⟨9, 1, [[.val (.string ⟨#[]⟩)]], .cells⟩)], 248⟩
theorem List_call {l : List ByteArray} (hl : l.length ≤ maxLen) (hs : ∀ x ∈ l, x.size ≤ maxLen) : CallOk Tryz.prog 92 [.rd 1 (strs l)] [] (.tup [.val (.string (listE l).1), eN (listE l).2]) [] := by
  refine .of_exec Tryz.func92 rfl (enters_92) rfl rfl (Nat.le_of_ble_eq_true rfl) (fun n _ => rfl) ?_
  unfold maxLen at hl
  by_cases h : 1000 < l.length
  · have e : listE l = (⟨#[]⟩, 2) := if_pos h
    have h' : (1000 : Int) < l.length := by omega
    simp [h, h']
    exact .plain (by simp) (by simp [e])
  · have h' : ¬ (1000 : Int) < l.length := by omega
    have e1 : listE l = match listR l (numS l.length) with
      | some b => (b, 0)
      | none => (⟨#[]⟩, 2) := if_neg h
    have e2 : numE l.length = (numS l.length, 0) := if_neg (by omega)
    have cn := Number_call (n := (l.length : Int)) ⟨by omega, by omega⟩
    rw [e2] at cn
    simp [h, h']
    refine .plain cn (by simp) (by simp) ?_
    simp
    refine callK.own [] [(104, 0)] (Write_first (s := numS l.length) (by rw [numS_size]; omega)) (by simp) (by simp) (by simp) (by simp) (by simp) (by simp) (by simp) (by simp) (by simp) (by simp) ?_
    simp [numS_size]
    refine callK.walk (n := 4) (res := [.tmp 2]) Tryz.func119 rfl (enters_119) rfl rfl (by simp) ?_
    simp
    refine WPg.rangeV (by simp) (by simp; rfl) (n := 25) Tryz.func135 rfl (enters_135) rfl (by simp) rfl fun tm fid dfs A B hA hB => ?_
    simp
    refine WPg.loopW (clist_inv l tm fid dfs A B) ⟨l.length, _, ?_, ⟨0, numS l.length, 185, .inl rfl, by simp, by simp, by rw [numS_size]; omega, by rw [numS_size]; omega, rfl, rfl⟩⟩ ?_
    · exact Wk.rn [] rfl (by simp) (by simp) (by simp [numS_size])
    rintro m st ⟨i, acc, nm, hnm, h1, h2, h30, h3, h4, rfl⟩
    by_cases hi : i < l.length
    · have hi' : (i : Int) < l.length := by omega
      have hw : IntKind.i64.wrap ((i : Int) + 1) = ((i + 1 : Nat) : Int) := by rw [w64 (by omega) (by omega)]; omega
      obtain ⟨x, hx⟩ : ∃ x, l[i] = x := ⟨_, rfl⟩
      have hxs : x.size ≤ maxLen := hs x (by rw [← hx]; exact List.getElem_mem hi)
      have hxs' := hxs
      unfold maxLen at hxs'
      rw [List.drop_eq_getElem_cons hi, hx, listR_cons] at h4
      rcases hnm with rfl | rfl
      all_goals
        simp [hi, hi', hx]
        refine .plain (Text_call hxs) (by simp) (by simp) ?_
        by_cases c1 : 65536 < x.size
        · have et : textE x = (⟨#[]⟩, 2) := if_pos c1
          rw [if_pos (.inl c1)] at h4
          rw [h4] at e1
          simp [et]
          refine yieldK.walk (by simp; rfl) rfl rfl (by simp) (by simp) ?_
          simp [hA, hB]
          first
            | refine callK.own [] [(104, 0), (185, 1)] (Write_again (t := acc) (s := ⟨#[]⟩) h30 (show acc.size + 0 ≤ _ by omega)) (by simp) (by simp) (by simp) (by simp) (by simp) (by simp; intro e; rw [e] at h30; simp at h30) (by simp) (by simp) (by simp) (by simp) ?_
            | refine callK.own [] [(104, 0), (240, 1)] (Write_again (t := acc) (s := ⟨#[]⟩) h30 (show acc.size + 0 ≤ _ by omega)) (by simp) (by simp) (by simp) (by simp) (by simp) (by simp; intro e; rw [e] at h30; simp at h30) (by simp) (by simp) (by simp) (by simp) ?_
          simp
          refine roundK.mk (by simp; rfl) ?_
          simp
          refine rangeQ.mk (by simp; rfl) rfl rfl (by simp) ?_
          simp
          exact .plain (by simp) (by simp [e1])
        · have et : textE x = (numS x.size ++ x, 0) := if_neg c1
          have hz : acc.size + (numS x.size ++ x).size ≤ 140737488355328 := by rw [ByteArray.size_append, numS_size]; omega
          have hwr := Write_again (t := acc) (s := numS x.size ++ x) h30 hz
          have hln := Len_again (t := acc ++ (numS x.size ++ x))
          simp [et]
          refine yieldK.walk (by simp; rfl) rfl rfl (by simp) (by simp) ?_
          simp [hA, hB]
          first
            | refine callK.own [] [(104, 0), (185, 1)] hwr (by simp) (by simp) (by simp) (by simp) (by simp) (by simp; intro e; rw [e] at h30; simp at h30) (by simp) (by simp) (by simp) (by simp) ?_
            | refine callK.own [] [(104, 0), (240, 1)] hwr (by simp) (by simp) (by simp) (by simp) (by simp) (by simp; intro e; rw [e] at h30; simp at h30) (by simp) (by simp) (by simp) (by simp) ?_
          simp
          refine callK.own [] [(104, 0), (394, 1)] hln (by simp) (by simp) (by simp) (by simp) (by simp) (by simp; intro e; rw [e] at h30; simp at h30) (by simp) (by simp) (by simp) (by simp) ?_
          by_cases c2 : 65536 < acc.size + (4 + x.size)
          · have c2' : (65536 : Int) < (acc.size : Int) + (4 + (x.size : Int)) := by omega
            rw [if_pos (.inr c2)] at h4
            rw [h4] at e1
            simp [numS_size, c2, c2']
            refine roundK.mk (by simp; rfl) ?_
            simp
            refine rangeQ.mk (by simp; rfl) rfl rfl (by simp) ?_
            simp
            exact .plain (by simp) (by simp [e1])
          · have c2' : ¬ (65536 : Int) < (acc.size : Int) + (4 + (x.size : Int)) := by omega
            rw [if_neg (fun c => c.elim c1 c2)] at h4
            simp [numS_size, c2, c2']
            refine roundK.mk (by simp; rfl) ?_
            simp
            refine ⟨l.length - (i + 1), by omega, _, ?_, ⟨i + 1, acc ++ (numS x.size ++ x), 240, .inr rfl, rfl, by omega, by simp [numS_size]; omega, by simp [numS_size]; omega, h4, rfl⟩⟩
            rw [hw]
            exact Wk.rn [(394, 240)] rfl (by simp) (by simp) (by simp [numS_size])
    · obtain rfl : i = l.length := by omega
      rw [List.drop_length] at h4
      rw [h4] at e1
      rcases hnm with rfl | rfl
      all_goals
        simp
        refine rangeQ.mk (by simp; rfl) rfl rfl (by simp) ?_
        simp
        first
          | refine callK.own [] [(104, 0), (185, 1)] (String_call (s := acc) h30 (by unfold maxLen; omega)) (by simp) (by simp) (by simp) (by simp) (by simp) (by simp; intro e; rw [e] at h30; simp at h30) (by simp) (by simp) (by simp) (by simp) ?_
          | refine callK.own [] [(104, 0), (240, 1)] (String_call (s := acc) h30 (by unfold maxLen; omega)) (by simp) (by simp) (by simp) (by simp) (by simp) (by simp; intro e; rw [e] at h30; simp at h30) (by simp) (by simp) (by simp) (by simp) ?_
        simp
        exact .plain (by simp) (by simp [e1, listR])
end Go.Proofs.YtbigcojlpcchiaaGreat.Sy

namespace Go.Proofs.YtbigcojlpcchiaaGreat.Sy
open Go Go.RowKit
set_option linter.unusedVariables false
set_option linter.unusedSimpArgs false
theorem btv_nums (xs : List Int) (i : Int) (h : ∀ x ∈ xs, 0 ≤ x ∧ x < 256) : btv (strOfNums xs) i = xs.getD i.toNat 0 := by
  unfold btv
  rw [show (strOfNums xs).data.toList = xs.map fun n => UInt8.ofNat n.toNat from rfl]
  rw [List.getD_eq_getElem?_getD, List.getD_eq_getElem?_getD, List.getElem?_map]
  cases c : xs[i.toNat]? with
  | none => rfl
  | some x =>
    obtain ⟨h0, h1⟩ := h x (List.mem_of_getElem? c)
    simp only [Option.map_some, Option.getD_some, UInt8.toNat_ofNat']
    omega
theorem strOfNums_append (xs ys : List Int) : strOfNums xs ++ strOfNums ys = strOfNums (xs ++ ys) := by
  apply ByteArray.ext
  apply Array.toList_inj.1
  rw [ByteArray.data_append, Array.toList_append]
  simp only [show ∀ zs, (strOfNums zs).data.toList = zs.map fun n => UInt8.ofNat n.toNat from fun _ => rfl, List.map_append]
theorem btv_zero (k : Nat) (i : Int) : btv (strOfNums (List.replicate k 0)) i = 0 := by
  rw [btv_nums _ _ fun x hx => by rw [List.eq_of_mem_replicate hx]; omega, List.getD_eq_getElem?_getD, List.getElem?_replicate]
  split <;> rfl
theorem tNum_zero (k : Nat) (hk : 4 ≤ k) : (tNum (strOfNums (List.replicate k 0)) 0).2.2 = if k ≤ 65536 then 0 else 1 := by
  have hs : (strOfNums (List.replicate k 0)).size = k := by simp [strOfNums_size]
  have hb : b4 (strOfNums (List.replicate k 0)) 0 = 0 := by unfold b4; simp only [btv_zero]; rfl
  unfold tNum
  by_cases c : k ≤ 65536
  · rw [if_pos (okC_iff.2 (by rw [hs]; omega)), if_neg (by rw [hs]; omega), hb, if_neg (by omega), if_pos c]
  · rw [if_neg (fun e => by have := okC_iff.1 e; rw [hs] at this; omega), if_neg c]
/-- A list's number, and so many numbers none. -/
def hdr (p q : Int) (m : Nat) : ByteArray := strOfNums [0, 0, p, q] ++ strOfNums (List.replicate m 0)
theorem hdr_size (p q : Int) (m : Nat) : (hdr p q m).size = 4 + m := by simp [hdr, strOfNums_size]
theorem hdr_nums (p q : Int) (m : Nat) : hdr p q m = strOfNums ([0, 0, p, q] ++ List.replicate m 0) := strOfNums_append _ _
theorem hdr_btv {p q : Int} (m : Nat) (hp : 0 ≤ p ∧ p < 256) (hq : 0 ≤ q ∧ q < 256) (i : Int) : btv (hdr p q m) i = ([0, 0, p, q] ++ List.replicate m 0).getD i.toNat 0 := by
  rw [hdr_nums, btv_nums]
  intro x hx
  rcases List.mem_append.1 hx with h | h
  · simp only [List.mem_cons, List.not_mem_nil, or_false] at h
    rcases h with rfl | rfl | rfl | rfl <;> omega
  · rw [List.eq_of_mem_replicate h]; omega
theorem hdr_far {p q : Int} {m : Nat} (hp : 0 ≤ p ∧ p < 256) (hq : 0 ≤ q ∧ q < 256) {i : Int} (hi : 4 ≤ i) : btv (hdr p q m) i = 0 := by
  rw [hdr_btv m hp hq, List.getD_eq_getElem?_getD, List.getElem?_append_right (by simp; omega), List.getElem?_replicate]
  split <;> rfl
theorem hdr_b4 {p q : Int} {m : Nat} (hp : 0 ≤ p ∧ p < 256) (hq : 0 ≤ q ∧ q < 256) {a : Int} (ha : 4 ≤ a) : b4 (hdr p q m) a = 0 := by
  unfold b4
  rw [hdr_far hp hq ha, hdr_far hp hq (by omega), hdr_far hp hq (by omega), hdr_far hp hq (by omega)]
  rfl
theorem hdr_b0 {p q : Int} {m : Nat} (hp : 0 ≤ p ∧ p < 256) (hq : 0 ≤ q ∧ q < 256) : b4 (hdr p q m) 0 = p * 256 + q := by
  unfold b4
  rw [hdr_btv m hp hq, hdr_btv m hp hq, hdr_btv m hp hq, hdr_btv m hp hq]
  simp
theorem hdr_texts {p q : Int} {m : Nat} (hp : 0 ≤ p ∧ p < 256) (hq : 0 ≤ q ∧ q < 256) (hm : m ≤ 65532) : ∀ (n : Nat) (a : Int) (out : List ByteArray), 4 ≤ a → a + 4 * n ≤ 4 + m → (tTexts (hdr p q m) n a out).2.2 = 0
  | 0, a, out, _, _ => rfl
  | n + 1, a, out, ha, h => by
    have ho : okC (hdr p q m) a = true := okC_iff.2 (by rw [hdr_size]; omega)
    have h1 : tNum (hdr p q m) a = (0, a + 4, 0) := by
      unfold tNum
      rw [if_pos ho, if_neg (by rw [hdr_size]; omega), hdr_b4 hp hq ha, if_neg (by omega)]
    have h2 : partS (hdr p q m) (a + 4) 0 = ((hdr p q m).extract (a + 4).toNat (a + 4 + 0).toNat, a + 4 + 0, 0) := by
      unfold partS
      rw [if_pos (okC_iff.2 (by rw [hdr_size]; omega)), if_neg (by rw [hdr_size]; omega)]
    have h3 : (tText (hdr p q m) a).2.2 = 0 ∧ (tText (hdr p q m) a).2.1 = a + 4 := by
      unfold tText
      rw [h1, hdr_b4 hp hq ha, h2]
      simp
    unfold tTexts
    rw [if_pos h3.1, h3.2]
    exact hdr_texts hp hq hm n _ _ (by omega) (by omega)
theorem hdr_list {n : Nat} (h0 : n ≤ 1002) : (tList (hdr ((n : Int) / 256) ((n : Int) % 256) (4 * n)) 0).2.2 = if n ≤ 1000 then 0 else 13 := by
  have hp : 0 ≤ (n : Int) / 256 ∧ (n : Int) / 256 < 256 := by omega
  have hq : 0 ≤ (n : Int) % 256 ∧ (n : Int) % 256 < 256 := by omega
  have hb : b4 (hdr ((n : Int) / 256) ((n : Int) % 256) (4 * n)) 0 = n := by rw [hdr_b0 hp hq]; omega
  have ht : tNum (hdr ((n : Int) / 256) ((n : Int) % 256) (4 * n)) 0 = ((n : Int), 0 + 4, 0) := by
    unfold tNum
    rw [if_pos (okC_iff.2 (by rw [hdr_size]; omega)), if_neg (by rw [hdr_size]; omega), hb, if_neg (by omega)]
  unfold tList
  rw [ht, hb]
  by_cases c : n ≤ 1000
  · rw [if_pos rfl, if_neg (by omega), if_pos (hdr_texts hp hq (by omega) _ _ _ (by omega) (by omega)), if_pos c]
    exact hdr_texts hp hq (by omega) _ _ _ (by omega) (by omega)
  · rw [if_pos rfl, if_pos (by omega), if_neg c]
theorem text_zero (k : Nat) : (∃ b, textE (strOfNums (List.replicate k 0)) = (b, 0) ∧ k ≤ 65536 ∧ b.size = k + 4) ∨ (textE (strOfNums (List.replicate k 0)) = (⟨#[]⟩, 2) ∧ 65536 < k) := by
  unfold textE
  have hs : (strOfNums (List.replicate k 0)).size = k := by simp [strOfNums_size]
  rw [hs]
  by_cases c : 65536 < k
  · rw [if_pos c]; exact .inr ⟨rfl, c⟩
  · rw [if_neg c]; exact .inl ⟨_, rfl, by omega, by rw [ByteArray.size_append, numS_size, hs]; omega⟩
theorem numsOf_zero : ∀ n : Nat, numsOf (List.replicate n [PV.val (.int .u8 0)]) = some (List.replicate n 0)
  | 0 => rfl
  | n + 1 => by
    rw [List.replicate_succ, List.replicate_succ]
    simp [numsOf, numsOf_zero n]
end Go.Proofs.YtbigcojlpcchiaaGreat.Sy

namespace Go.Proofs.YtbigcojlpcchiaaGreat.Sy
open Go Go.RowKit
set_option linter.unusedVariables false
set_option linter.unusedSimpArgs false
set_option maxRecDepth 10000
set_option maxHeartbeats 4000000
theorem refcright_call (s : ByteArray) (a : Int) : CallOk Tryz.prog 82 [curP s a] [] (.val (.bool (okC s a))) [] := by
  refine .of_exec Tryz.func82 rfl (enters_82) rfl rfl (Nat.le_of_ble_eq_true rfl) (fun n _ => rfl) ?_
  simp
  exact .plain (by simp) (by simp [okC])
theorem refend_call (s : ByteArray) (a : Int) : CallOk Tryz.prog 50 [curP s a] [] (eN (endC s a)) [] := by
  refine .of_exec Tryz.func50 rfl (enters_50) rfl rfl (Nat.le_of_ble_eq_true rfl) (fun n _ => rfl) ?_
  simp
  refine .plain (refcright_call s a) (by simp) (by simp) ?_
  cases h : okC s a with
  | false =>
    have e : endC s a = 1 := by unfold endC; rw [if_neg (by rw [h]; simp)]
    simp
    exact .plain (by simp) (by simp [e])
  | true =>
    by_cases h2 : a < s.size
    · have e : endC s a = 13 := by unfold endC; rw [if_pos h, if_pos h2]
      simp [h2]
      exact .plain (by simp) (by simp [e])
    · have e : endC s a = 0 := by unfold endC; rw [if_pos h, if_neg h2]
      simp [h2]
      exact .plain (by simp) (by simp [e])
abbrev curO (s : ByteArray) (a : Int) : Ob := ⟨84, 2, [[.val (.string s), .val (.int .i64 a)]], .cells⟩
def refnum_inv (s : ByteArray) (a : Int) (x : ByteArray) (m : Nat) (st : St) : Prop := ∃ i : Nat, m = 4 - i ∧ i ≤ 4 ∧
  st = ⟨44, [(6, .val (.int .i64 i)), (5, .val (.int .i64 (bN x i))), (3, .ref 72 2 0 0), (1, .ref 64 2 0 0)], [(64, curO s a), (72, curO ⟨#[]⟩ 0)], 80⟩
theorem refTakeNumber_call (s : ByteArray) (a : Int) : CallOk Tryz.prog 48 [curP s a] [] (.tup [.val (.int .i64 (tNum s a).1), curP s (tNum s a).2.1, eN (tNum s a).2.2]) [] := by
  refine .of_exec Tryz.func48 rfl (enters_48) rfl rfl (Nat.le_of_ble_eq_true rfl) (fun n _ => rfl) ?_
  simp
  refine .plain (refcright_call s a) (by simp) (by simp) ?_
  cases h : okC s a with
  | false =>
    have e : tNum s a = (0, a, 1) := by unfold tNum; rw [if_neg (by rw [h]; simp)]
    simp
    exact ⟨rfl, .plain (by simp) (by simp [e])⟩
  | true =>
    have hc := okC_iff.1 h
    have w0 : IntKind.i64.wrap ((s.size : Int) - a) = s.size - a := w64 (by omega) (by omega)
    by_cases h2 : (s.size : Int) - a < 4
    · have e : tNum s a = (0, a, 10) := by unfold tNum; rw [if_pos h, if_pos h2]
      simp [w0, h2]
      exact ⟨rfl, .plain (by simp) (by simp [e])⟩
    · obtain ⟨x, hx⟩ : ∃ x, x = s.extract a.toNat (a + 4).toNat := ⟨_, rfl⟩
      have hxs : x.size = 4 := by rw [hx, ByteArray.size_extract]; omega
      have hb := bN4 hc.2.1 (show a + 4 ≤ (s.size : Int) by omega)
      rw [← hx] at hb
      simp [w0, h2]
      refine WPg.loopW (refnum_inv s a x) ⟨4, _, ?_, ⟨0, by simp, by simp, rfl⟩⟩ ?_
      · exact Wk.rn [(64, 64), (80, 72)] rfl (by simp) (by simp [bN]) (by simp)
      rintro m st ⟨i, h1, h3, rfl⟩
      by_cases hi : i < 4
      · have hi' : (i : Int) < 4 := by omega
        have hv : 0 ≤ bN x i ∧ bN x i < 16777216 := by
          have := bN_range x i
          have hp := (by decide : ∀ j : Nat, j < 4 → (256 : Int) ^ j ≤ 16777216) i hi
          omega
        have hw : IntKind.i64.wrap ((i : Int) + 1) = ((i + 1 : Nat) : Int) := by rw [w64 (by omega) (by omega)]; omega
        have hwa : IntKind.i64.wrap (a + i) = a + i := w64 (by omega) (by omega)
        have hbt : btv x (i : Int) = btv s (a + i) := by
          have := btv_extract (s := s) (a := a.toNat) (b := (a + 4).toNat) (j := i) (by omega) (by omega)
          rw [← hx] at this
          rw [this]
          congr 1
          omega
        have hr := btv_range s (a + i)
        have hw1 : IntKind.i64.wrap (256 * bN x i) = 256 * bN x i := w64 (by omega) (by omega)
        have hw2 : IntKind.i64.wrap (btv s (a + i)) = btv s (a + i) := w64 (by omega) (by omega)
        have hw3 : IntKind.i64.wrap (256 * bN x i + btv s (a + i)) = bN x (i + 1) := by
          rw [w64 (by omega) (by omega)]
          simp only [bN]
          rw [hbt]
          omega
        have hlo : 0 ≤ a + (i : Int) ∧ a + (i : Int) < s.size := by omega
        simp [hi, hi', hwa, hw1, hw2, hw3, hlo]
        refine ⟨4 - (i + 1), by omega, _, ?_, ⟨i + 1, rfl, by omega, rfl⟩⟩
        rw [hw]
        exact Wk.rn [(64, 64), (72, 72)] rfl (by simp) (by simp) (by simp)
      · obtain rfl : i = 4 := by omega
        by_cases h4 : 2147483647 < b4 s a
        · have e : tNum s a = (0, a, 13) := by unfold tNum; rw [if_pos h, if_neg h2, if_pos h4]
          simp [hb, h4]
          exact ⟨rfl, .plain (by simp) (by simp [e])⟩
        · have e : tNum s a = (b4 s a, a + 4, 0) := by unfold tNum; rw [if_pos h, if_neg h2, if_neg h4]
          have w4 : IntKind.i64.wrap (a + 4) = a + 4 := w64 (by omega) (by omega)
          simp [hb, h4, w4]
          exact ⟨rfl, .plain (by simp) (by simp [e])⟩
theorem refTakeText_call (s : ByteArray) (a : Int) : CallOk Tryz.prog 83 [curP s a] [] (.tup [.val (.string (tText s a).1), curP s (tText s a).2.1, eN (tText s a).2.2]) [] := by
  refine .of_exec Tryz.func83 rfl (enters_83) rfl rfl (Nat.le_of_ble_eq_true rfl) (fun n _ => rfl) ?_
  simp
  refine .plain (refTakeNumber_call s a) (by simp) (by simp) ?_
  by_cases h : (tNum s a).2.2 = 0
  · obtain ⟨k1, k2, k3, k4⟩ := tNum_ok h
    have hb := b4_range s a
    have hc := okC_iff.1 k1
    have w0 : IntKind.i64.wrap ((s.size : Int) - (a + 4)) = s.size - (a + 4) := w64 (by omega) (by omega)
    have ho := okC_next k1 (n := 4) (by omega) k2
    by_cases h2 : (s.size : Int) - (a + 4) < b4 s a
    · have ep : partS s (a + 4) (b4 s a) = (⟨#[]⟩, a + 4, 10) := by unfold partS; rw [if_pos ho, if_pos h2]
      have e : tText s a = (⟨#[]⟩, a, 10) := by unfold tText; rw [if_pos h, ep, if_neg (by simp)]
      simp [k4, w0, h2]
      exact ⟨rfl, .plain (by simp) (by simp [e])⟩
    · have ep : partS s (a + 4) (b4 s a) = (s.extract (a + 4).toNat (a + 4 + b4 s a).toNat, a + 4 + b4 s a, 0) := by unfold partS; rw [if_pos ho, if_neg h2]
      have e : tText s a = (s.extract (a + 4).toNat (a + 4 + b4 s a).toNat, a + 4 + b4 s a, 0) := by unfold tText; rw [if_pos h, ep, if_pos rfl]
      have w1 : IntKind.i64.wrap (a + 4 + b4 s a) = a + 4 + b4 s a := w64 (by omega) (by omega)
      have q1 : 0 ≤ a + 4 ∧ a + 4 ≤ a + 4 + b4 s a ∧ a + 4 + b4 s a ≤ (s.size : Int) := by omega
      simp [k4, w0, h2, w1, q1, hb]
      exact ⟨rfl, .plain (by simp) (by simp [e])⟩
  · have e : tText s a = (⟨#[]⟩, a, (tNum s a).2.2) := by unfold tText; rw [if_neg h]
    simp [h]
    exact ⟨rfl, .plain (by simp) (by simp [e, h])⟩
def reftl_inv (s : ByteArray) (a k : Int) (m : Nat) (st : St) : Prop := ∃ (i : Nat) (b : Int) (out : List ByteArray), m = k.toNat - i ∧ i ≤ k.toNat ∧ out.length = i ∧ tTexts s k.toNat (a + 4) [] = tTexts s (k.toNat - i) b out ∧
  ((i = 0 ∧ st = ⟨48, [(9, .val (.int .i64 i)), (8, .val (.slice none 0 0)), (6, .ref 80 2 0 0), (5, .val (.int .i64 k)), (3, .ref 72 2 0 0), (1, .ref 64 2 0 0)], [(64, curO s a), (72, curO ⟨#[]⟩ 0), (80, curO s b)], 88⟩) ∨
   (0 < i ∧ st = ⟨48, [(9, .val (.int .i64 i)), (8, .sl 88 1 0 i), (6, .ref 80 2 0 0), (5, .val (.int .i64 k)), (3, .ref 72 2 0 0), (1, .ref 64 2 0 0)], [(64, curO s a), (72, curO ⟨#[]⟩ 0), (80, curO s b), (88, ⟨9, 1, strs out, .cells⟩)], 96⟩))
theorem refTakeList_call (s : ByteArray) (a : Int) : CallOk Tryz.prog 49 [curP s a] [] (.tup [.rd 1 (strs (tList s a).1), curP s (tList s a).2.1, eN (tList s a).2.2]) [] := by
  refine .of_exec Tryz.func49 rfl (enters_49) rfl rfl (Nat.le_of_ble_eq_true rfl) (fun n _ => rfl) ?_
  simp
  refine .plain (refTakeNumber_call s a) (by simp) (by simp) ?_
  by_cases h : (tNum s a).2.2 = 0
  · obtain ⟨k1, k2, k3, k4⟩ := tNum_ok h
    have hb := b4_range s a
    by_cases h2 : 1000 < b4 s a
    · have e : tList s a = ([], a, 13) := by unfold tList; rw [if_pos h, if_pos h2]
      simp [k4, h2]
      exact ⟨rfl, .wk _ (Wk.nilRd 1 [(2, .rd 1 []), (3, .ref 80 2 0 0), (4, .val (.int .i64 13))] (by simp)) (by simp) (by simp [e, strs_nil])⟩
    · obtain ⟨n, hn⟩ : ∃ n : Nat, b4 s a = n := ⟨(b4 s a).toNat, by omega⟩
      have hn1 : n ≤ 1000 := by omega
      have eL : tList s a = if (tTexts s n (a + 4) []).2.2 = 0 then tTexts s n (a + 4) [] else ([], a, (tTexts s n (a + 4) []).2.2) := by
        unfold tList
        rw [if_pos h, if_neg h2, hn, Int.toNat_natCast]
      have m1 : 1 ≤ maxLen := by decide
      rw [hn] at h2 k4
      have h2' : ¬ 1000 < n := by omega
      simp [k4, h2, h2', hn]
      refine WPg.loopW (reftl_inv s a n) ⟨n, _, ?_, ⟨0, a + 4, [], by simp, by simp, by simp, by simp, .inl ⟨rfl, rfl⟩⟩⟩ ?_
      · exact Wk.rn [(64, 64), (80, 72), (144, 80)] rfl (by simp) (by simp) (by simp)
      rintro m st ⟨i, b, out, g1, g2, g3, g4, g5⟩
      rw [Int.toNat_natCast] at g1 g2 g4
      by_cases hi : i < n
      · have hi' : (i : Int) < n := by omega
        have hw : IntKind.i64.wrap ((i : Int) + 1) = ((i + 1 : Nat) : Int) := by rw [w64 (by omega) (by omega)]; omega
        have hsp : n - i = (n - (i + 1)) + 1 := by omega
        rw [hsp, tTexts] at g4
        have hT := refTakeText_call s b
        have h16 : i ≤ 140737488355327 ∧ (i + 1) * 16 ≤ 140737488355328 := by omega
        generalize tText s b = T at *
        obtain ⟨x, b', e'⟩ := T
        simp only at g4 hT
        by_cases c : e' = 0
        · subst c
          rw [if_pos rfl] at g4
          rcases g5 with ⟨g6, rfl⟩ | ⟨g6, rfl⟩
          · have ho : out = [] := List.eq_nil_of_length_eq_zero (by omega)
            subst ho
            subst g6
            have hn0 : 0 < n := hi
            simp [hn0]
            refine .plain hT (by simp) (by simp) ?_
            simp [m1]
            refine ⟨n - 1, by omega, _, ?_, ⟨1, b', [x], by simp, by simp; omega, rfl, by simpa using g4, .inr ⟨by omega, rfl⟩⟩⟩
            have hw2 : IntKind.i64.wrap 1 = 1 := rfl
            exact Wk.rn [(64, 64), (72, 72), (80, 80), (232, 88)] rfl (by simp) (by simp [hw2]) (by simp; rfl)
          · have ht : out.take i = out := List.take_of_length_le (by omega)
            simp [hi']
            refine .plain hT (by simp) (by simp) ?_
            simp [m1, g3, h16]
            refine ⟨n - (i + 1), by omega, _, ?_, ⟨i + 1, b', out ++ [x], by simp, by simp; omega, by simp [g3], by simpa using g4, .inr ⟨by omega, rfl⟩⟩⟩
            rw [hw]
            exact Wk.rn [(64, 64), (72, 72), (80, 80), (240, 88)] rfl (by simp) (by simp) (by simp [ht])
        · rw [if_neg c] at g4
          have e : tList s a = ([], a, e') := by rw [eL, g4, if_neg c]
          rcases g5 with ⟨g6, rfl⟩ | ⟨g6, rfl⟩
          · simp [hi']
            refine .plain hT (by simp) (by simp) ?_
            simp [c]
            exact ⟨rfl, .wk _ (Wk.nilRd 1 [(2, .rd 1 []), (3, .ref 72 2 0 0), (4, .val (.int .i64 e'))] (by simp)) (by simp) (by simp [e, strs_nil])⟩
          · simp [hi']
            refine .plain hT (by simp) (by simp) ?_
            simp [c]
            exact ⟨rfl, .wk _ (Wk.nilRd 1 [(2, .rd 1 []), (3, .ref 72 2 0 0), (4, .val (.int .i64 e'))] (by simp)) (by simp) (by simp [e, strs_nil])⟩
      · obtain rfl : i = n := by omega
        rw [Nat.sub_self, tTexts] at g4
        have e : tList s a = (out, b, 0) := by rw [eL, g4, if_pos rfl]
        rcases g5 with ⟨g6, rfl⟩ | ⟨g6, rfl⟩
        · have ho : out = [] := List.eq_nil_of_length_eq_zero (by omega)
          subst ho
          simp
          exact ⟨rfl, .wk _ (Wk.nilRd 1 [(2, .rd 1 []), (3, .ref 72 2 0 0), (4, .val (.int .i64 0))] (by simp)) (by simp) (by simp [e, strs_nil])⟩
        · have ht : out.take i = out := List.take_of_length_le (by omega)
          simp
          exact ⟨rfl, .frz [88] [2, 3, 4] (by simp [g3]) (by simp [g3]) (by simp [g3]) (by simp [g3]) (by simp [e, g3, ht])⟩
  · have e : tList s a = ([], a, (tNum s a).2.2) := by unfold tList; rw [if_neg h]
    simp [h]
    exact ⟨rfl, .wk _ (Wk.nilRd 1 [(2, .rd 1 []), (3, .ref 80 2 0 0), (4, .val (.int .i64 (tNum s a).2.2))] (by simp)) (by simp) (by simp [e, strs_nil])⟩
end Go.Proofs.YtbigcojlpcchiaaGreat.Sy

namespace Go.Proofs.YtbigcojlpcchiaaGreat.Sy
open Go Go.RowKit
set_option linter.unusedVariables false
set_option linter.unusedSimpArgs false
set_option maxRecDepth 10000
set_option maxHeartbeats 4000000
theorem num10_call {n : Int} (hn : isI64 n) : CallOk Tryz.prog 43 [.val (.int .i64 n)] [] (.val (.string (numE n).1)) [] := by
  refine .of_exec Tryz.func43 rfl (enters_43) rfl rfl (Nat.le_of_ble_eq_true rfl) (fun n _ => rfl) ?_
  simp
  refine .plain (refnumber_call hn) (by simp) (by simp) ?_
  simp
  exact .plain (by simp) (by simp)
theorem whole10_call {l : List ByteArray} (hl : l.length ≤ maxLen) (hs : ∀ x ∈ l, x.size ≤ maxLen) : CallOk Tryz.prog 44 [.rd 1 (strs l)] [] (.val (.string (listE l).1)) [] := by
  refine .of_exec Tryz.func44 rfl (enters_44) rfl rfl (Nat.le_of_ble_eq_true rfl) (fun n _ => rfl) ?_
  simp
  refine .plain (reflist_call hl hs) (by simp) (by simp) ?_
  simp
  exact .plain (by simp) (by simp)
end Go.Proofs.YtbigcojlpcchiaaGreat.Sy
