/- Layer 10: what is taken, the program's. -/
import Derived.Test.YtidaedchmjlbfaaGreatC10a
namespace Go.Proofs.YtidaedchmjlbfaaGreat.Sy
open Go Go.RowKit
set_option linter.unusedVariables false
set_option linter.unusedSimpArgs false
set_option maxRecDepth 10000
set_option maxHeartbeats 4000000
theorem or_step10 {v b : Int} (hv : 0 ≤ v ∧ v < 16777216) (hb : 0 ≤ b ∧ b < 256) :
    IntKind.i64.wrap (((IntKind.i64.wrap (v * 2 ^ min 8 IntKind.i64.bits) % 2 ^ IntKind.i64.bits).toNat ||| (IntKind.i64.wrap b % 2 ^ IntKind.i64.bits).toNat : Nat) : Int) = v * 256 + b := by
  have b64 : IntKind.i64.bits = 64 := rfl
  obtain ⟨v, rfl⟩ : ∃ k : Nat, v = k := ⟨v.toNat, by omega⟩
  obtain ⟨b, rfl⟩ : ∃ k : Nat, b = k := ⟨b.toNat, by omega⟩
  have h1 : IntKind.i64.wrap ((v : Int) * 2 ^ min 8 IntKind.i64.bits) = (v : Int) * 256 := by rw [b64]; simp; exact w64 (by omega) (by omega)
  have h2 : IntKind.i64.wrap (b : Int) = b := w64 (by omega) (by omega)
  rw [h1, h2, b64]
  have e1 : ((v : Int) * 256 % 2 ^ 64).toNat = v <<< 8 := by rw [Nat.shiftLeft_eq]; omega
  have e2 : ((b : Int) % 2 ^ 64).toNat = b := by omega
  rw [e1, e2, ← Nat.shiftLeft_add_eq_or_of_lt (by omega : b < 2 ^ 8), Nat.shiftLeft_eq, w64 (by omega) (by omega)]
  omega
/-- The first bytes as a number. -/
def bN (s : ByteArray) : Nat → Int
  | 0 => 0
  | i + 1 => bN s i * 256 + btv s i
theorem bN_range (s : ByteArray) : ∀ i, 0 ≤ bN s i ∧ bN s i < 256 ^ i
  | 0 => by simp [bN]
  | i + 1 => by
    have := bN_range s i
    have hb := btv_range s i
    rw [Int.pow_succ]
    simp only [bN]
    omega
theorem btv_extract {s : ByteArray} {a b j : Nat} (hb : b ≤ s.size) (hj : a + j < b) : btv (s.extract a b) (j : Int) = btv s ((a + j : Nat) : Int) := by
  unfold btv
  congr 2
  simp only [Int.toNat_natCast, List.getD_eq_getElem?_getD, Array.getElem?_toList, ByteArray.data_extract, Array.getElem?_extract]
  rw [if_pos (by have : s.size = s.data.size := rfl; omega)]
theorem bN4 {s : ByteArray} {a : Int} (h0 : 0 ≤ a) (h : a + 4 ≤ s.size) : bN (s.extract a.toNat (a + 4).toNat) 4 = b4 s a := by
  obtain ⟨k, rfl⟩ : ∃ k : Nat, a = k := ⟨a.toNat, by omega⟩
  have e : ((k : Int) + 4).toNat = k + 4 := by omega
  rw [e, Int.toNat_natCast]
  have g : ∀ j : Nat, j < 4 → btv (s.extract k (k + 4)) (j : Int) = btv s ((k : Int) + j) := fun j hj => by
    rw [btv_extract (by omega) (by omega)]; congr 1
  have g0 : btv (s.extract k (k + 4)) 0 = btv s k := by have := g 0 (by omega); simpa using this
  have g1 : btv (s.extract k (k + 4)) 1 = btv s (k + 1) := by have := g 1 (by omega); simpa using this
  have g2 : btv (s.extract k (k + 4)) 2 = btv s (k + 2) := by have := g 2 (by omega); simpa using this
  have g3 : btv (s.extract k (k + 4)) 3 = btv s (k + 3) := by have := g 3 (by omega); simpa using this
  have e4 : bN (s.extract k (k + 4)) 4 = ((btv (s.extract k (k + 4)) 0 * 256 + btv (s.extract k (k + 4)) 1) * 256 + btv (s.extract k (k + 4)) 2) * 256 + btv (s.extract k (k + 4)) 3 := by simp [bN]
  rw [e4, g0, g1, g2, g3]
  rfl
def num_inv (s : ByteArray) (a : Int) (x : ByteArray) (m : Nat) (st : St) : Prop := ∃ i : Nat, m = 4 - i ∧ i ≤ 4 ∧
  st = ⟨39, [(24, .val (.int .i64 i)), (23, .val (.int .i64 4)), (22, .rd 1 (brow x)), (8, .val (.int .i64 (bN x i))), (6, .ref 80 2 0 0), (3, .ref 72 2 0 0), (1, .ref 64 2 0 0)],
    [(64, ⟨61, 2, [[.val (.string s), .val (.int .i64 a)]], .cells⟩), (72, ⟨61, 2, [[.val (.string ⟨#[]⟩), .val (.int .i64 0)]], .cells⟩), (80, ⟨61, 2, [[.val (.string s), .val (.int .i64 (a + 4))]], .cells⟩)], 88⟩
theorem TakeNumber_call (s : ByteArray) (a : Int) : CallOk Tryz.prog 31 [curP s a] [] (.tup [.val (.int .i64 (tNum s a).1), curP s (tNum s a).2.1, eN (tNum s a).2.2]) [] := by
  refine .of_exec Tryz.func31 rfl (enters_31) rfl rfl (Nat.le_of_ble_eq_true rfl) (fun n _ => rfl) ?_
  simp
  refine .plain (cpart_call s (a := a) (n := 4) (by omega)) (by simp) (by simp) ?_
  cases h : okC s a with
  | false =>
    have e : tNum s a = (0, a, 1) := by unfold tNum; rw [if_neg (by rw [h]; simp)]
    have e2 : partS s a 4 = (⟨#[]⟩, a, 1) := by unfold partS; rw [if_neg (by rw [h]; simp)]
    simp [e2]
    exact ⟨rfl, .plain (by simp) (by simp [e])⟩
  | true =>
    have hc := okC_iff.1 h
    by_cases h2 : (s.size : Int) - a < 4
    · have e : tNum s a = (0, a, 10) := by unfold tNum; rw [if_pos h, if_pos h2]
      have e2 : partS s a 4 = (⟨#[]⟩, a, 10) := by unfold partS; rw [if_pos h, if_pos h2]
      simp [e2]
      exact ⟨rfl, .plain (by simp) (by simp [e])⟩
    · have e2 : partS s a 4 = (s.extract a.toNat (a + 4).toNat, a + 4, 0) := by unfold partS; rw [if_pos h, if_neg h2]
      obtain ⟨x, hx⟩ : ∃ x, x = s.extract a.toNat (a + 4).toNat := ⟨_, rfl⟩
      have hxs : x.size = 4 := by rw [hx, ByteArray.size_extract]; omega
      have hb := bN4 hc.2.1 (show a + 4 ≤ (s.size : Int) by omega)
      rw [← hx] at e2 hb
      simp [e2]
      refine WPg.loopW (num_inv s a x) ⟨4, _, ?_, ⟨0, by simp, by simp, rfl⟩⟩ ?_
      · exact Wk.rn [(64, 64), (80, 72), (144, 80)] rfl (by simp) (by simp [bN, hxs]) (by simp)
      rintro m st ⟨i, h1, h3, rfl⟩
      by_cases hi : i < 4
      · have hi' : (i : Int) < 4 := by omega
        have hv : 0 ≤ bN x i ∧ bN x i < 16777216 := by
          have := bN_range x i
          have hp := (by decide : ∀ j : Nat, j < 4 → (256 : Int) ^ j ≤ 16777216) i hi
          omega
        have hstep := or_step10 hv (btv_range x i)
        have hw : IntKind.i64.wrap ((i : Int) + 1) = ((i + 1 : Nat) : Int) := by rw [w64 (by omega) (by omega)]; omega
        simp [hi, hi', hxs, hstep]
        refine ⟨4 - (i + 1), by omega, _, ?_, ⟨i + 1, rfl, by omega, rfl⟩⟩
        rw [hw]
        exact Wk.rn [(64, 64), (72, 72), (80, 80)] rfl (by simp) (by simp; rfl) (by simp)
      · obtain rfl : i = 4 := by omega
        by_cases h4 : 2147483647 < b4 s a
        · have e : tNum s a = (0, a, 13) := by unfold tNum; rw [if_pos h, if_neg h2, if_pos h4]
          simp [hb, h4]
          exact ⟨rfl, .plain (by simp) (by simp [e])⟩
        · have e : tNum s a = (b4 s a, a + 4, 0) := by unfold tNum; rw [if_pos h, if_neg h2, if_neg h4]
          simp [hb, h4]
          exact ⟨rfl, .plain (by simp) (by simp [e])⟩
theorem TakeText_call (s : ByteArray) (a : Int) : CallOk Tryz.prog 57 [curP s a] [] (.tup [.val (.string (tText s a).1), curP s (tText s a).2.1, eN (tText s a).2.2]) [] := by
  refine .of_exec Tryz.func57 rfl (enters_57) rfl rfl (Nat.le_of_ble_eq_true rfl) (fun n _ => rfl) ?_
  have hm : CallOk Tryz.prog 75 [curP s a, .clo 54 []] [] (.tup [.val (.string (tText s a).1), curP s (tText s a).2.1, eN (tText s a).2.2]) [] := by
    refine .of_exec Tryz.func75 rfl (enters_75) rfl rfl (Nat.le_of_ble_eq_true rfl) (fun n _ => rfl) ?_
    simp
    refine .plain (TakeNumber_call s a) (by simp) (by simp) ?_
    by_cases h : (tNum s a).2.2 = 0
    · obtain ⟨k1, k2, k3, k4⟩ := tNum_ok h
      have hb := b4_range s a
      simp [k4]
      refine .plain (cpart_call s (a := a + 4) (n := b4 s a) hb) (by simp) (by simp) ?_
      by_cases h2 : (partS s (a + 4) (b4 s a)).2.2 = 0
      · have e : tText s a = partS s (a + 4) (b4 s a) := by unfold tText; rw [if_pos h, if_pos h2]
        simp [h2]
        exact ⟨rfl, .plain (by simp) (by simp [e, h2])⟩
      · have e : tText s a = (⟨#[]⟩, a, (partS s (a + 4) (b4 s a)).2.2) := by unfold tText; rw [if_pos h, if_neg h2]
        simp [h2]
        exact ⟨rfl, .plain (by simp) (by simp [e, h2])⟩
    · have e : tText s a = (⟨#[]⟩, a, (tNum s a).2.2) := by unfold tText; rw [if_neg h]
      simp [h]
      exact ⟨rfl, .plain (by simp) (by simp [e, h])⟩
  simp
  refine .plain hm (by simp) (by simp) ?_
  simp
  exact .plain (by simp) (by simp)
end Go.Proofs.YtidaedchmjlbfaaGreat.Sy
