/- The texts K12.. as one. -/
import Derived.Test.YtbigcojlpcchiaaGreatSyInt
import Derived.Test.YtbigcojlpcchiaaGreatSyTab
import Derived.Test.YtbigcojlpcchiaaGreatSyRng
namespace Go.Proofs.YtbigcojlpcchiaaGreat.Sy.Bk
open Go Go.RowKit
set_option linter.unusedVariables false
set_option linter.unusedSimpArgs false

structure Bkt where
  st : Int
  lab : ByteArray
  cell : ByteArray
deriving DecidableEq
abbrev Bkt.free : Bkt := ⟨0, ⟨#[]⟩, ⟨#[]⟩⟩
instance : Inhabited Bkt := ⟨.free⟩
def rowB (b : Bkt) : List PV := [.val (.int .i64 b.st), .val (.string b.lab), .val (.string b.cell)]
def rowsB (l : List Bkt) : List (List PV) := l.map rowB
@[simp] theorem rowsB_length (l : List Bkt) : (rowsB l).length = l.length := by simp [rowsB]
@[simp] theorem rowsB_get {l : List Bkt} {i : Nat} (h : i < (rowsB l).length) : (rowsB l)[i] = rowB (l[i]'(by simpa using h)) := by simp [rowsB]
@[simp] theorem rowsB_getD {l : List Bkt} {i : Nat} (h : i < l.length) (d : List PV) : (rowsB l).getD i d = rowB l[i] := by
  simp [rowsB, List.getD_eq_getElem?_getD, h]
@[simp] theorem rowsB_getQ {l : List Bkt} {i : Nat} (h : i < l.length) : (rowsB l)[i]? = some (rowB l[i]) := by simp [rowsB, h]
@[simp] theorem rowsB_take (l : List Bkt) (n : Nat) : (rowsB l).take n = rowsB (l.take n) := by simp [rowsB, List.map_take]
@[simp] theorem rowsB_set (l : List Bkt) (i : Nat) (a : Int) (b c : ByteArray) : (rowsB l).set i [.val (.int .i64 a), .val (.string b), .val (.string c)] = rowsB (l.set i ⟨a, b, c⟩) := by simp [rowsB, rowB, List.map_set]
@[simp] theorem rowsB_nil : rowsB [] = [] := rfl
theorem rowsB_ok (l : List Bkt) : RowsOk 3 (rowsB l) := by
  intro r hr
  obtain ⟨b, _, rfl⟩ := List.mem_map.1 hr
  exact ⟨rfl, by simp [rowB]⟩
@[simp ↓] theorem rowsB_ok' (l : List Bkt) : RowsOk 3 (rowsB l) ↔ True := ⟨fun _ => trivial, fun _ => rowsB_ok l⟩
theorem rowsB_nf (l : List Bkt) : nfRows (rowsB l) := by
  intro r hr c hc
  obtain ⟨b, _, rfl⟩ := List.mem_map.1 hr
  simp only [rowB, List.mem_cons, List.not_mem_nil, or_false] at hc
  rcases hc with rfl | rfl | rfl <;> trivial
@[simp ↓] theorem rowsB_nf' (l : List Bkt) : nfRows (rowsB l) ↔ True := ⟨fun _ => trivial, fun _ => rowsB_nf l⟩
theorem map_rowsB {f : PV → PV} (hf : ∀ v, f (.val v) = .val v) (l : List Bkt) : (rowsB l).map (List.map f) = rowsB l := by
  unfold rowsB
  rw [List.map_map]
  refine List.map_congr_left fun b _ => ?_
  simp [rowB, hf]
@[simp] theorem map_rowsB_rn0 (π : Nat → Option Nat) (l : List Bkt) : (rowsB l).map (List.map (rn0 π)) = rowsB l := map_rowsB (fun _ => rfl) l
@[simp] theorem map_rowsB_low0 (obs : List (Nat × Ob)) (B : List Nat) (l : List Bkt) : (rowsB l).map (List.map (low0 obs B)) = rowsB l := map_rowsB (fun _ => rfl) l
@[simp] theorem rowsB_replicate (n : Nat) : List.replicate n [PV.val (.int .i64 0), .val (.string ⟨#[]⟩), .val (.string ⟨#[]⟩)] = rowsB (List.replicate n .free) := by simp [rowsB, rowB]
structure Sto where
  bs : List Bkt
  many : Int
  gone : Int
deriving DecidableEq
abbrev stoP (s : Sto) : PV := .agg [.rd 3 (rowsB s.bs), .val (.int .i64 s.many), .val (.int .i64 s.gone)]

end Go.Proofs.YtbigcojlpcchiaaGreat.Sy.Bk

namespace Go.Proofs.YtbigcojlpcchiaaGreat.Sy.Bk
open Go Go.RowKit
set_option linter.unusedVariables false
set_option linter.unusedSimpArgs false
set_option maxRecDepth 10000
set_option maxHeartbeats 4000000
/-- The sizes that there may be. -/
def sizeB (n : Int) : Bool := decide (n ∈ ([8, 16, 32, 64, 128, 256, 512, 1024, 2048, 4096] : List Int))
def and64 (a b : Int) : Int := IntKind.u64.wrap ((BitVec.ofInt 64 a &&& BitVec.ofInt 64 b).toNat : Int)
def ones1 (n : Int) : Int := IntKind.u64.wrap (and64 (n.fdiv (2 ^ min 1 64)) 6148914691236517205 + and64 n 6148914691236517205)
def ones2 (n : Int) : Int := IntKind.u64.wrap (and64 (n.fdiv (2 ^ min 2 64)) 3689348814741910323 + and64 n 3689348814741910323)
def ones3 (n : Int) : Int := and64 (IntKind.u64.wrap (n.fdiv (2 ^ min 4 64) + n)) 1085102592571150095
def ones4 (n : Int) : Int := IntKind.u64.wrap (n + n.fdiv (2 ^ min 8 64))
def ones5 (n : Int) : Int := IntKind.u64.wrap (n + n.fdiv (2 ^ min 16 64))
def ones6 (n : Int) : Int := IntKind.u64.wrap (n + n.fdiv (2 ^ min 32 64))
def ones7 (n : Int) : Int := IntKind.i64.wrap ((BitVec.ofInt 64 (IntKind.i64.wrap n) &&& BitVec.ofInt 64 127).toNat : Int)
def onesI (n : Int) : Int := ones7 (ones6 (ones5 (ones4 (ones3 (ones2 (ones1 n))))))
theorem bits64 : IntKind.u64.bits = 64 := rfl
theorem bits64' : IntKind.i64.bits = 64 := rfl
theorem ones64_call (n : Int) : CallOk Tryz.prog 107 [.val (.int .u64 n)] [] (.val (.int .i64 (onesI n))) [] := by
  refine .of_exec Tryz.func107 rfl (enters_107) rfl rfl (Nat.le_of_ble_eq_true rfl) (fun n _ => rfl) ?_
  simp
  exact .plain (by simp) (by simp [onesI, ones1, ones2, ones3, ones4, ones5, ones6, ones7, and64, bits64, bits64'])
theorem ones_call (n : Int) : CallOk Tryz.prog 84 [.val (.int .u64 n)] [] (.val (.int .i64 (onesI n))) [] := by
  refine .of_exec Tryz.func84 rfl (enters_84) rfl rfl (Nat.le_of_ble_eq_true rfl) (fun n _ => rfl) ?_
  simp
  refine .plain (ones64_call n) (by simp) (by simp) ?_
  simp
  exact .plain (by simp) (by simp)
theorem ones_size : ∀ n : Fin 4097, 8 ≤ n.val → decide (onesI n.val = 1) = sizeB n.val := by decide +kernel
end Go.Proofs.YtbigcojlpcchiaaGreat.Sy.Bk

namespace Go.Proofs.YtbigcojlpcchiaaGreat.Sy.Bk
open Go Go.RowKit
set_option linter.unusedVariables false
set_option linter.unusedSimpArgs false
set_option maxRecDepth 10000
set_option maxHeartbeats 4000000
def mayB (b : Bkt) : Bool := if b.st = 1 then decide ((b.lab.size : Int) = 16) && decide ((b.cell.size : Int) = 40) else (decide (b.st = 0) || decide (b.st = 2)) && decide (b.lab = ⟨#[]⟩) && decide (b.cell = ⟨#[]⟩)
theorem may_call (b : Bkt) : CallOk Tryz.prog 56 [.agg (rowB b)] [] (.val (.bool (mayB b))) [] := by
  refine .of_exec Tryz.func56 rfl (enters_56) rfl rfl (Nat.le_of_ble_eq_true rfl) (fun n _ => rfl) ?_
  simp [rowB]
  refine ⟨fun h => .plain (by simp) (by simp [mayB, h]), fun h => .plain (by simp) (by simp [mayB, h])⟩
theorem sizeB_pow : ∀ i : Nat, i < 10 → sizeB (8 * 2 ^ i) = true := by decide
def rsz_inv (n : Int) (m : Nat) (s : St) : Prop := ∃ i : Nat, m = 10 - i ∧ i ≤ 10 ∧ (∀ j, j < i → n ≠ 8 * 2 ^ j) ∧ s = ⟨11, [(3, .val (.int .i64 (8 * 2 ^ i))), (0, .val (.int .i64 n)), (2, .val (.bool false))], [], 64⟩
theorem refsize_call (n : Int) : CallOk Tryz.prog 55 [.val (.int .i64 n)] [] (.val (.bool (sizeB n))) [] := by
  refine .of_exec Tryz.func55 rfl (enters_55) rfl rfl (Nat.le_of_ble_eq_true rfl) (fun n _ => rfl) ?_
  simp
  refine WPg.loopW (rsz_inv n) ⟨10, _, ?_, ⟨0, by simp, by simp, by simp, rfl⟩⟩ ?_
  · exact Wk.rn [] rfl (by simp) (by simp) (by simp)
  rintro m st ⟨i, h1, h2, h3, rfl⟩
  by_cases hi : i < 10
  · have hle : (8 * 2 ^ i : Int) ≤ 4096 := (by decide : ∀ j : Nat, j < 10 → (8 * 2 ^ j : Int) ≤ 4096) i hi
    have h0 : (0 : Int) ≤ 2 ^ i := Int.pow_nonneg (by omega)
    have hw : IntKind.i64.wrap (2 * (8 * 2 ^ i)) = 8 * 2 ^ (i + 1) := by rw [w64 (by omega) (by omega), Int.pow_succ]; omega
    simp [hle, hw]
    refine ⟨fun he => .plain (by simp) (by subst he; simp [sizeB_pow i hi]), fun hne => ?_⟩
    refine ⟨10 - (i + 1), by omega, _, ?_, ⟨i + 1, rfl, by omega, fun j hj => ?_, rfl⟩⟩
    · exact Wk.rn [] rfl (by simp) (by simp) (by simp)
    · by_cases e : j = i
      · subst e; exact fun h => hne h.symm
      · exact h3 j (by omega)
  · obtain rfl : i = 10 := by omega
    simp
    exact .plain (by simp) (by
      have := fun j (hj : j < 10) => h3 j hj
      have h0 := this 0 (by omega); have h1 := this 1 (by omega); have h2 := this 2 (by omega); have h3 := this 3 (by omega); have h4 := this 4 (by omega)
      have h5 := this 5 (by omega); have h6 := this 6 (by omega); have h7 := this 7 (by omega); have h8 := this 8 (by omega); have h9 := this 9 (by omega)
      simp at h0 h1 h2 h3 h4 h5 h6 h7 h8 h9
      simp [sizeB, h0, h1, h2, h3, h4, h5, h6, h7, h8, h9])
theorem size_call (n : Int) (h : isI64 n) : CallOk Tryz.prog 54 [.val (.int .i64 n)] [] (.val (.bool (sizeB n))) [] := by
  refine .of_exec Tryz.func54 rfl (enters_54) rfl rfl (Nat.le_of_ble_eq_true rfl) (fun n _ => rfl) ?_
  have hn : (¬ 8 ≤ n ∨ ¬ n ≤ 4096) → sizeB n = false := fun h => by
    unfold sizeB
    rw [decide_eq_false]
    simp
    omega
  by_cases h1 : 8 ≤ n
  · by_cases h2 : n ≤ 4096
    · obtain ⟨k, rfl⟩ : ∃ k : Nat, n = k := ⟨n.toNat, by omega⟩
      have hw : IntKind.u64.wrap (k : Int) = k := by rw [IntKind.wrap_u64]; omega
      have hs := ones_size ⟨k, by omega⟩ (by simp; omega)
      simp only [] at hs
      simp [h1, h2, hw]
      refine .plain (ones_call k) (by simp) (by simp) ?_
      simp [hs]
      exact .plain (by simp) (by simp)
    · simp [h1, h2]
      exact .plain (by simp) (by simp [hn (.inr h2)])
  · simp [h1]
    exact .plain (by simp) (by simp [hn (.inl h1)])
theorem or_step {v b : Int} (hv : 0 ≤ v ∧ v < 16777216) (hb : 0 ≤ b ∧ b < 256) :
    IntKind.i64.wrap (((IntKind.i64.wrap (v * 2 ^ min 8 IntKind.i64.bits) % 2 ^ IntKind.i64.bits).toNat ||| (IntKind.i64.wrap b % 2 ^ IntKind.i64.bits).toNat : Nat) : Int) = 256 * v + b := by
  obtain ⟨v, rfl⟩ : ∃ k : Nat, v = k := ⟨v.toNat, by omega⟩
  obtain ⟨b, rfl⟩ : ∃ k : Nat, b = k := ⟨b.toNat, by omega⟩
  have h1 : IntKind.i64.wrap ((v : Int) * 2 ^ min 8 IntKind.i64.bits) = (v : Int) * 256 := by rw [bits64']; simp; exact w64 (by omega) (by omega)
  have h2 : IntKind.i64.wrap (b : Int) = b := w64 (by omega) (by omega)
  rw [h1, h2, bits64']
  have e1 : ((v : Int) * 256 % 2 ^ 64).toNat = v <<< 8 := by rw [Nat.shiftLeft_eq]; omega
  have e2 : ((b : Int) % 2 ^ 64).toNat = b := by omega
  rw [e1, e2, ← Nat.shiftLeft_add_eq_or_of_lt (by omega : b < 2 ^ 8), Nat.shiftLeft_eq, w64 (by omega) (by omega)]
  omega
def numB (s : ByteArray) : Nat → Int
  | 0 => 0
  | i + 1 => 256 * numB s i + btv s i
theorem numB_range (s : ByteArray) : ∀ i, 0 ≤ numB s i ∧ numB s i < 256 ^ i
  | 0 => by simp [numB]
  | i + 1 => by
    have := numB_range s i
    have hb := btv_range s i
    rw [Int.pow_succ]
    simp only [numB]
    omega
theorem number_call {s : ByteArray} (hs : s.size = 4) :
    CallOk Tryz.prog 128 [.val (.string s)] [] (.val (.int .i64 (numB s 4))) [] := by
  refine .of_exec Tryz.func128 rfl (enters_128) rfl rfl (Nat.le_of_ble_eq_true rfl) (fun n _ => rfl) ?_
  simp
  refine WPg.loopW (fun m st => ∃ i : Nat, m = 4 - i ∧ i ≤ 4 ∧ st = ⟨19, [(8, .val (.int .i64 i)), (7, .val (.int .i64 4)), (6, .rd 1 (brow s)), (2, .val (.int .i64 (numB s i)))], [], 64⟩) ⟨4, _, ?_, ⟨0, rfl, by simp, rfl⟩⟩ ?_
  · simp [hs, numB]
    exact Wk.rn [] rfl (by simp) (by simp) (by simp)
  rintro m st ⟨i, h1, h2, rfl⟩
  by_cases hi : i < 4
  · have hi' : (i : Int) < 4 := by omega
    have hv : 0 ≤ numB s i ∧ numB s i < 16777216 := by
      have := numB_range s i
      have hp := (by decide : ∀ j : Nat, j < 4 → (256 : Int) ^ j ≤ 16777216) i hi
      omega
    have hstep := or_step hv (btv_range s i)
    have hw : IntKind.i64.wrap ((i : Int) + 1) = ((i + 1 : Nat) : Int) := by rw [w64 (by omega) (by omega)]; omega
    simp [hi, hi', hs, hstep]
    refine ⟨4 - (i + 1), by omega, _, ?_, ⟨i + 1, rfl, by omega, rfl⟩⟩
    rw [hw]
    exact Wk.rn [] rfl (by simp) (by simp; rfl) (by simp)
  · obtain rfl : i = 4 := by omega
    simp
    exact .plain (by simp) (by simp)
end Go.Proofs.YtbigcojlpcchiaaGreat.Sy.Bk

namespace Go.Proofs.YtbigcojlpcchiaaGreat.Sy.Bk
open Go Go.RowKit
set_option linter.unusedVariables false
set_option linter.unusedSimpArgs false
set_option maxRecDepth 10000
set_option maxHeartbeats 4000000
/-- The number of a label's first four bytes. -/
def num4 (s : ByteArray) : Int := 16777216 * btv s 0 + 65536 * btv s 1 + 256 * btv s 2 + btv s 3
def homeI (s : ByteArray) (n : Int) : Int := if (s.size : Int) < 4 ∨ n < 1 then 0 else num4 s % n
theorem num4_range (s : ByteArray) : 0 ≤ num4 s ∧ num4 s < 4294967296 := by
  have h0 := btv_range s 0
  have h1 := btv_range s 1
  have h2 := btv_range s 2
  have h3 := btv_range s 3
  unfold num4
  omega
theorem homeI_range {s : ByteArray} {n : Int} (h : 0 < n) : 0 ≤ homeI s n ∧ homeI s n < n := by
  unfold homeI
  split
  · omega
  · exact ⟨Int.emod_nonneg _ (by omega), Int.emod_lt_of_pos _ h⟩
theorem numB_num4 (s : ByteArray) : numB s 4 = num4 s := by
  have e : numB s 4 = 256 * (256 * (256 * (256 * 0 + btv s (0 : Nat)) + btv s (1 : Nat)) + btv s (2 : Nat)) + btv s (3 : Nat) := rfl
  rw [e, num4]
  simp
  omega
theorem btv_cut {s : ByteArray} {m i : Nat} (h : i < m) : btv (s.extract 0 m) (i : Int) = btv s (i : Int) := by
  unfold btv
  simp only [Int.toNat_natCast]
  rw [ByteArray.data_extract, Array.toList_extract, List.extract_eq_take_drop]
  simp only [Nat.sub_zero, List.drop_zero, List.getD_eq_getElem?_getD, List.getElem?_take, h, if_true]
theorem num4_cut (s : ByteArray) : num4 (s.extract 0 4) = num4 s := by
  have h0 := btv_cut (s := s) (show 0 < 4 by omega); have h1 := btv_cut (s := s) (show 1 < 4 by omega); have h2 := btv_cut (s := s) (show 2 < 4 by omega); have h3 := btv_cut (s := s) (show 3 < 4 by omega)
  simp at h0 h1 h2 h3
  rw [num4, num4, h0, h1, h2, h3]
theorem home_call (s : ByteArray) {n : Int} (hn : isI64 n) : CallOk Tryz.prog 109 [.val (.string s), .val (.int .i64 n)] [] (.val (.int .i64 (homeI s n))) [] := by
  refine .of_exec Tryz.func109 rfl (enters_109) rfl rfl (Nat.le_of_ble_eq_true rfl) (fun n _ => rfl) ?_
  by_cases h : (s.size : Int) < 4 ∨ n < 1
  · have hh : homeI s n = 0 := if_pos h
    rw [hh]
    have hd : (decide ((s.size : Int) < 4) || decide (n < 1)) = true := by simpa using h
    simp [hd]
    exact .plain (by simp) (by simp)
  · have hh : homeI s n = num4 s % n := if_neg h
    have h1 : ¬ (s.size : Int) < 4 := fun e => h (.inl e)
    have h2 : ¬ n < 1 := fun e => h (.inr e)
    have h3 : n ≠ 0 := by omega
    have h4 : (4 : Int) ≤ s.size := by omega
    have hm : (num4 s).tmod n = num4 s % n := Int.tmod_eq_emod_of_nonneg (num4_range s).1
    rw [hh]
    simp [h1, h2, h4]
    refine .plain (number_call (by simp; omega)) (by simp) (by simp) ?_
    rw [numB_num4, num4_cut]
    simp [h3, hm]
    exact .plain (by simp) (by simp)
theorem refhome_call (s : ByteArray) {n : Int} (hn : isI64 n) : CallOk Tryz.prog 86 [.val (.string s), .val (.int .i64 n)] [] (.val (.int .i64 (homeI s n))) [] := by
  refine .of_exec Tryz.func86 rfl (enters_86) rfl rfl (Nat.le_of_ble_eq_true rfl) (fun n _ => rfl) ?_
  by_cases h : (s.size : Int) < 4 ∨ n < 1
  · have hh : homeI s n = 0 := if_pos h
    rw [hh]
    have hd : (decide ((s.size : Int) < 4) || decide (n < 1)) = true := by simpa using h
    simp [hd]
    exact .plain (by simp) (by simp)
  · have hh : homeI s n = num4 s % n := if_neg h
    have h1 : ¬ (s.size : Int) < 4 := fun e => h (.inl e)
    have h2 : ¬ n < 1 := fun e => h (.inr e)
    have h3 : n ≠ 0 := by omega
    have i0 : 0 < s.size := by omega
    have i1 : (1 : Int) < s.size := by omega
    have i2 : (2 : Int) < s.size := by omega
    have i3 : (3 : Int) < s.size := by omega
    have b0 := btv_range s 0
    have b1 := btv_range s 1
    have b2 := btv_range s 2
    have b3 := btv_range s 3
    have w0 : IntKind.i64.wrap (btv s 0) = btv s 0 := w64 (by omega) (by omega)
    have w1 : IntKind.i64.wrap (btv s 1) = btv s 1 := w64 (by omega) (by omega)
    have w2 : IntKind.i64.wrap (btv s 2) = btv s 2 := w64 (by omega) (by omega)
    have w3 : IntKind.i64.wrap (btv s 3) = btv s 3 := w64 (by omega) (by omega)
    have m0 : IntKind.i64.wrap (16777216 * btv s 0) = 16777216 * btv s 0 := w64 (by omega) (by omega)
    have m1 : IntKind.i64.wrap (65536 * btv s 1) = 65536 * btv s 1 := w64 (by omega) (by omega)
    have m2 : IntKind.i64.wrap (256 * btv s 2) = 256 * btv s 2 := w64 (by omega) (by omega)
    have a0 : IntKind.i64.wrap (16777216 * btv s 0 + 65536 * btv s 1) = 16777216 * btv s 0 + 65536 * btv s 1 := w64 (by omega) (by omega)
    have a1 : IntKind.i64.wrap (16777216 * btv s 0 + 65536 * btv s 1 + 256 * btv s 2) = 16777216 * btv s 0 + 65536 * btv s 1 + 256 * btv s 2 := w64 (by omega) (by omega)
    have a2 : IntKind.i64.wrap (16777216 * btv s 0 + 65536 * btv s 1 + 256 * btv s 2 + btv s 3) = num4 s := w64 (by omega) (by omega)
    have hm : (num4 s).tmod n = num4 s % n := Int.tmod_eq_emod_of_nonneg (num4_range s).1
    rw [hh]
    simp [h1, h2, h3, i0, i1, i2, i3, w0, w1, w2, w3, m0, m1, m2, a0, a1, a2, hm]
    refine ⟨rfl, ?_⟩
    exact .plain (by simp) (by simp)
end Go.Proofs.YtbigcojlpcchiaaGreat.Sy.Bk

namespace Go.Proofs.YtbigcojlpcchiaaGreat.Sy.Bk
open Go Go.RowKit
set_option linter.unusedVariables false
set_option linter.unusedSimpArgs false
set_option maxRecDepth 10000
set_option maxHeartbeats 4000000
/-- The place of the i-th bucket of a way. -/
def placeN (n : Nat) (home i : Nat) : Nat := (home + i) % n
/-- What find tells, from the i-th bucket of the way on, of so many ones. -/
def scanB (bs : List Bkt) (lab : ByteArray) (home : Nat) : Nat → Nat → Int → Int × Int
  | 0, _, room => (-1, room)
  | m + 1, i, room =>
    let k := placeN bs.length home i
    let b := bs.getD k .free
    if b.st = 1 then if b.lab = lab then ((k : Int), room) else scanB bs lab home m (i + 1) room
    else
      let room' := if room < 0 then (k : Int) else room
      if b.st = 0 then (-1, room') else scanB bs lab home m (i + 1) room'
def homeN (lab : ByteArray) (n : Nat) : Nat := (homeI lab n).toNat
def findB (bs : List Bkt) (lab : ByteArray) : Int × Int := scanB bs lab (homeN lab bs.length) bs.length 0 (-1)
abbrev pairI (p : Int × Int) : PV := .tup [.val (.int .i64 p.1), .val (.int .i64 p.2)]
theorem place_eq {lab : ByteArray} {n i : Nat} (hn : i < n) (hl : n < 4611686018427387904) :
    (IntKind.i64.wrap (homeI lab n + i)).tmod n = (placeN n (homeN lab n) i : Nat) := by
  have hH := homeI_range (s := lab) (n := n) (by omega)
  obtain ⟨h, e⟩ : ∃ h : Nat, homeI lab n = h := ⟨(homeI lab n).toNat, by omega⟩
  rw [w64 (by omega) (by omega), Int.tmod_eq_emod_of_nonneg (by omega), placeN, homeN, e]
  simp
theorem scanB_succ (bs : List Bkt) (lab : ByteArray) (home m i : Nat) (room : Int) {b : Bkt} (hb : bs.getD (placeN bs.length home i) .free = b) :
    scanB bs lab home (m + 1) i room = if b.st = 1 then if b.lab = lab then ((placeN bs.length home i : Int), room) else scanB bs lab home m (i + 1) room
      else if b.st = 0 then (-1, if room < 0 then (placeN bs.length home i : Int) else room) else scanB bs lab home m (i + 1) (if room < 0 then (placeN bs.length home i : Int) else room) := by
  subst hb; rfl
def reffind_inv (s : Sto) (lab : ByteArray) (m : Nat) (st : St) : Prop := ∃ i : Nat, ∃ room : Int, m = s.bs.length - i ∧ i ≤ s.bs.length ∧ -1 ≤ room ∧ findB s.bs lab = scanB s.bs lab (homeN lab s.bs.length) m i room ∧ st = ⟨54, [(8, .val (.int .i64 i)), (7, .val (.int .i64 room)), (6, .val (.int .i64 s.bs.length)), (2, .ref 64 3 0 0), (1, .val (.string lab))], [(64, ⟨31, 3, [[.rd 3 (rowsB s.bs), .val (.int .i64 s.many), .val (.int .i64 s.gone)]], .cells⟩)], 72⟩
theorem reffind_call (s : Sto) (lab : ByteArray) (hl : s.bs.length < 4611686018427387904) :
    CallOk Tryz.prog 58 [stoP s, .val (.string lab)] [] (pairI (findB s.bs lab)) [] := by
  refine .of_exec Tryz.func58 rfl (enters_58) rfl rfl (Nat.le_of_ble_eq_true rfl) (fun n _ => rfl) ?_
  simp
  refine WPg.loopW (reffind_inv s lab) ⟨s.bs.length, _, ?_, ⟨0, -1, by simp, by simp, by simp, rfl, rfl⟩⟩ ?_
  · exact Wk.rn [(64, 64)] rfl (by simp) (by simp) (by simp [RowsOk, RowOk])
  rintro m st ⟨i, room, h1, h2, h3, h4, rfl⟩
  by_cases hi : i < s.bs.length
  · have hi' : (i : Int) < s.bs.length := by omega
    have hne : s.bs ≠ [] := by rintro e; rw [e] at hi; simp at hi
    have hk := place_eq (lab := lab) hi hl
    have hkl : placeN s.bs.length (homeN lab s.bs.length) i < s.bs.length := Nat.mod_lt _ (by omega)
    have hw : IntKind.i64.wrap ((i : Int) + 1) = ((i + 1 : Nat) : Int) := by rw [w64 (by omega) (by omega)]; omega
    obtain ⟨b, hb⟩ : ∃ b, s.bs[placeN s.bs.length (homeN lab s.bs.length) i] = b := ⟨_, rfl⟩
    have hd : s.bs.getD (placeN s.bs.length (homeN lab s.bs.length) i) .free = b := by rw [List.getD_eq_getElem?_getD, List.getElem?_eq_getElem hkl, hb]; rfl
    obtain ⟨k, e⟩ : ∃ k : Nat, m = k + 1 := ⟨m - 1, by omega⟩
    rw [e, scanB_succ _ _ _ _ _ _ hd] at h4
    simp [hi, hi']
    refine .plain (refhome_call lab ⟨by omega, by omega⟩) (by simp) (by simp) ?_
    by_cases c1 : b.st = 1
    · by_cases c2 : b.lab = lab
      · simp [hne, hk, hkl, rowB, hb, c1, c2]
        exact .plain (by simp) (by simp [h4, c1, c2])
      · simp [hne, hk, hkl, rowB, hb, c1, c2]
        refine ⟨k, by omega, _, ?_, ⟨i + 1, room, by omega, by omega, h3, by simpa [c1, c2] using h4, rfl⟩⟩
        rw [hw]
        exact Wk.rn [(64, 64)] rfl (by simp) (by simp) (by simp [RowsOk, RowOk])
    · by_cases c3 : room < 0
      · by_cases c4 : b.st = 0
        · simp [hne, hk, hkl, rowB, hb, c3, c4]
          exact .plain (by simp) (by simp [h4, c3, c4])
        · simp [hne, hk, hkl, rowB, hb, c1, c3, c4]
          refine ⟨k, by omega, _, ?_, ⟨i + 1, (placeN s.bs.length (homeN lab s.bs.length) i : Nat), by omega, by omega, by omega, by simpa [c1, c3, c4] using h4, rfl⟩⟩
          rw [hw]
          exact Wk.rn [(64, 64)] rfl (by simp) (by simp) (by simp [RowsOk, RowOk])
      · by_cases c4 : b.st = 0
        · simp [hne, hk, hkl, rowB, hb, c3, c4]
          exact .plain (by simp) (by simp [h4, c3, c4])
        · simp [hne, hk, hkl, rowB, hb, c1, c3, c4]
          refine ⟨k, by omega, _, ?_, ⟨i + 1, room, by omega, by omega, by omega, by simpa [c1, c3, c4] using h4, rfl⟩⟩
          rw [hw]
          exact Wk.rn [(64, 64)] rfl (by simp) (by simp) (by simp [RowsOk, RowOk])
  · obtain rfl : i = s.bs.length := by omega
    obtain rfl : m = 0 := by omega
    simp
    exact .plain (by simp) (by simp [h4, scanB])
end Go.Proofs.YtbigcojlpcchiaaGreat.Sy.Bk

namespace Go.Proofs.YtbigcojlpcchiaaGreat.Sy.Bk
open Go Go.RowKit
set_option linter.unusedVariables false
set_option linter.unusedSimpArgs false
set_option maxRecDepth 10000
set_option maxHeartbeats 4000000
def find_inv (s : Sto) (lab : ByteArray) (tm : Array Value) (fid : FuncId) (dfs : Nat) (A B : Code) (m : Nat) (st : St) : Prop := ∃ i : Nat, ∃ room : Int, m = s.bs.length - i ∧ i ≤ s.bs.length ∧ -1 ≤ room ∧ findB s.bs lab = scanB s.bs lab (homeN lab s.bs.length) m i room ∧
  st = ⟨40, [(16, .val (.int .i64 i)), (15, .val (.int .i64 s.bs.length)), (4, .val (.int .i64 s.bs.length)), (5, .val (.int .i64 (homeI lab s.bs.length))), (0, .yld 160), (1, .ref 120 3 0 0)],
    [(160, ⟨0, 0, [], .loop ⟨28, [(5, .ref 88 1 0 0), (4, .ref 80 1 0 0), (3, .ref 72 1 0 0)], tm, fid, #[11, 12], A, B, dfs, .ready, none⟩⟩), (120, ⟨31, 3, [[.rd 3 (rowsB s.bs), .val (.int .i64 s.many), .val (.int .i64 s.gone)]], .cells⟩), (88, ⟨3, 1, [[.val (.int .i64 room)]], .cells⟩), (80, ⟨3, 1, [[.val (.int .i64 0)]], .cells⟩), (72, ⟨9, 1, [[.val (.string lab)]], .cells⟩)], 168⟩
theorem find_call (s : Sto) (lab : ByteArray) (hl : s.bs.length < 4611686018427387904) :
    CallOk Tryz.prog 57 [stoP s, .val (.string lab)] [] (pairI (findB s.bs lab)) [] := by
  refine .of_exec Tryz.func57 rfl (enters_57) rfl rfl (Nat.le_of_ble_eq_true rfl) (fun n _ => rfl) ?_
  simp
  refine callK.walk (n := 6) (res := [.tmp 4]) Tryz.func85 rfl (enters_85) rfl rfl (by simp) ?_
  simp
  refine WPg.rangeV (by simp) (by simp; rfl) (n := 40) Tryz.func108 rfl (enters_108) rfl (by simp) rfl fun tm fid dfs A B hA hB => ?_
  simp
  refine .plain (home_call lab ⟨by omega, by omega⟩) (by simp) (by simp) ?_
  simp
  refine WPg.loopW (find_inv s lab tm fid dfs A B) ⟨s.bs.length, _, ?_, ⟨0, -1, by simp, by simp, by simp, rfl, rfl⟩⟩ ?_
  · exact Wk.rn [] rfl (by simp) (by simp) (by simp [RowsOk, RowOk])
  rintro m st ⟨i, room, h1, h2, h3, h4, rfl⟩
  by_cases hi : i < s.bs.length
  · have hi' : (i : Int) < s.bs.length := by omega
    have hne : s.bs ≠ [] := by rintro e; rw [e] at hi; simp at hi
    have hk := place_eq (lab := lab) hi hl
    have hkl : placeN s.bs.length (homeN lab s.bs.length) i < s.bs.length := Nat.mod_lt _ (by omega)
    have hw : IntKind.i64.wrap ((i : Int) + 1) = ((i + 1 : Nat) : Int) := by rw [w64 (by omega) (by omega)]; omega
    obtain ⟨b, hb⟩ : ∃ b, s.bs[placeN s.bs.length (homeN lab s.bs.length) i] = b := ⟨_, rfl⟩
    have hd : s.bs.getD (placeN s.bs.length (homeN lab s.bs.length) i) .free = b := by rw [List.getD_eq_getElem?_getD, List.getElem?_eq_getElem hkl, hb]; rfl
    obtain ⟨k, e⟩ : ∃ k : Nat, m = k + 1 := ⟨m - 1, by omega⟩
    rw [e, scanB_succ _ _ _ _ _ _ hd] at h4
    have cr : room = -1 ∨ room ≠ -1 ∧ ¬ room < 0 := by omega
    simp [hi, hi', hne, hk, hkl, rowB, hb]
    refine yieldK.walk (by simp; rfl) rfl rfl (by simp) (by simp) ?_
    by_cases c1 : b.st = 1
    · by_cases c2 : b.lab = lab
      · simp [hA, hB, c1, c2]
        refine ⟨rfl, roundK.mk (by simp; rfl) ?_⟩
        simp
        refine rangeQ.mk (by simp; rfl) rfl rfl (by simp) ?_
        simp
        exact .plain (by simp) (by simp [h4, c1, c2])
      · simp [hA, hB, c1, c2]
        refine roundK.mk (by simp; rfl) ?_
        simp
        refine ⟨k, by omega, _, ?_, ⟨i + 1, room, by omega, by omega, h3, by simpa [c1, c2] using h4, rfl⟩⟩
        rw [hw]
        exact Wk.rn [] rfl (by simp) (by simp) (by simp [RowsOk, RowOk])
    · rcases cr with rfl | ⟨cr, cr'⟩
      · simp [hA, hB, c1]
        refine roundK.mk (by simp; rfl) ?_
        by_cases c4 : b.st = 0
        · simp [c4]
          refine rangeQ.mk (by simp; rfl) rfl rfl (by simp) ?_
          simp
          refine ⟨rfl, .plain (by simp) (by simp [h4, c4])⟩
        · simp [c4]
          refine ⟨k, by omega, _, ?_, ⟨i + 1, (placeN s.bs.length (homeN lab s.bs.length) i : Nat), by omega, by omega, by omega, by simpa [c1, c4] using h4, rfl⟩⟩
          rw [hw]
          exact Wk.rn [] rfl (by simp) (by simp) (by simp [RowsOk, RowOk])
      · simp [hA, hB, c1, cr]
        refine roundK.mk (by simp; rfl) ?_
        by_cases c4 : b.st = 0
        · simp [c4]
          refine rangeQ.mk (by simp; rfl) rfl rfl (by simp) ?_
          simp
          refine ⟨rfl, .plain (by simp) (by simp [h4, c4, cr'])⟩
        · simp [c4]
          refine ⟨k, by omega, _, ?_, ⟨i + 1, room, by omega, by omega, by omega, by simpa [c1, c4, cr'] using h4, rfl⟩⟩
          rw [hw]
          exact Wk.rn [] rfl (by simp) (by simp) (by simp [RowsOk, RowOk])
  · obtain rfl : i = s.bs.length := by omega
    obtain rfl : m = 0 := by omega
    simp
    refine rangeQ.mk (by simp; rfl) rfl rfl (by simp) ?_
    simp
    refine ⟨rfl, .plain (by simp) (by simp [h4, scanB])⟩
end Go.Proofs.YtbigcojlpcchiaaGreat.Sy.Bk

namespace Go.Proofs.YtbigcojlpcchiaaGreat.Sy.Bk
open Go Go.RowKit
set_option linter.unusedVariables false
set_option linter.unusedSimpArgs false
set_option maxRecDepth 10000
set_option maxHeartbeats 4000000
def usedN (bs : List Bkt) : Nat := bs.countP fun b => decide (b.st = 1)
def goneN (bs : List Bkt) : Nat := bs.countP fun b => decide (b.st = 2)
/-- What Right asks of the i-th bucket. -/
def goodAt (bs : List Bkt) (i : Nat) : Bool := mayB (bs.getD i .free) && (decide ((bs.getD i .free).st ≠ 1) || decide ((findB bs (bs.getD i .free).lab).1 = i))
def rightB (s : Sto) : Bool := sizeB s.bs.length && ((List.range s.bs.length).all (goodAt s.bs) && (decide ((usedN s.bs : Int) = s.many) && decide ((goneN s.bs : Int) = s.gone) && decide (4 * (s.many + s.gone) ≤ 3 * s.bs.length)))
def keysB (bs : List Bkt) : List ByteArray := (bs.filter fun b => decide (b.st = 1)).map (·.lab)
theorem keysB_length (bs : List Bkt) : (keysB bs).length = usedN bs := by simp [keysB, usedN, List.countP_eq_length_filter]
theorem usedN_le (bs : List Bkt) : usedN bs ≤ bs.length := List.countP_le_length
theorem goneN_le (bs : List Bkt) : goneN bs ≤ bs.length := List.countP_le_length
def rowsK (ks : List ByteArray) : List (List PV) := ks.map fun k => [.val (.string k), .un]
@[simp] theorem rowsK_length (ks : List ByteArray) : (rowsK ks).length = ks.length := by simp [rowsK]
@[simp] theorem rowsK_rn (π : Nat → Option Nat) (ks : List ByteArray) : (rowsK ks).map (List.map (rn0 π)) = rowsK ks := by
  unfold rowsK
  rw [List.map_map]
  exact List.map_congr_left fun k _ => by simp
theorem rowsK_snoc (ks : List ByteArray) (k : ByteArray) : rowsK (ks ++ [k]) = rowsK ks ++ [[.val (.string k), .un]] := by simp [rowsK]
theorem findP_rowsK {k : ByteArray} : ∀ {ks : List ByteArray} (i : Nat), k ∉ ks → findP .string (.val (.string k)) (rowsK ks) i = some none
  | [], _, _ => rfl
  | x :: ks, i, h => by
    have h1 : k ≠ x := fun e => h (by rw [e]; simp)
    have := findP_rowsK (ks := ks) (i + 1) (fun e => h (List.mem_cons_of_mem _ e))
    simp [rowsK, findP, keyD, h1] at this ⊢
    exact this
theorem usedN_take {bs : List Bkt} {i : Nat} {b : Bkt} (hi : i < bs.length) (hb : bs[i] = b) : usedN (bs.take (i + 1)) = usedN (bs.take i) + (if b.st = 1 then 1 else 0) := by
  rw [List.take_succ_eq_append_getElem hi, hb]
  simp [usedN, List.countP_append, List.countP_cons]
theorem goneN_take {bs : List Bkt} {i : Nat} {b : Bkt} (hi : i < bs.length) (hb : bs[i] = b) : goneN (bs.take (i + 1)) = goneN (bs.take i) + (if b.st = 2 then 1 else 0) := by
  rw [List.take_succ_eq_append_getElem hi, hb]
  simp [goneN, List.countP_append, List.countP_cons]
theorem keysB_take {bs : List Bkt} {i : Nat} {b : Bkt} (hi : i < bs.length) (hb : bs[i] = b) : keysB (bs.take (i + 1)) = keysB (bs.take i) ++ (if b.st = 1 then [b.lab] else []) := by
  rw [List.take_succ_eq_append_getElem hi, hb]
  by_cases h : b.st = 1 <;> simp [keysB, h]
/-- The label of a used one that is found at its place is new among the ones before it. -/
theorem keys_fresh {bs : List Bkt} {i : Nat} {b : Bkt} (hg : ∀ j, j < i → goodAt bs j = true) (hi : i < bs.length) (h2 : (findB bs b.lab).1 = i) : b.lab ∉ keysB (bs.take i) := by
  intro hmem
  obtain ⟨c, hc, e⟩ := List.mem_map.1 hmem
  obtain ⟨hc, hc1⟩ := List.mem_filter.1 hc
  obtain ⟨j, hj, hcj⟩ := List.mem_iff_getElem.1 hc
  rw [List.length_take] at hj
  have hj' : bs.getD j .free = c := by
    rw [List.getD_eq_getElem?_getD, List.getElem?_eq_getElem (by omega)]
    simpa using hcj
  have hgj := hg j (by omega)
  simp only [decide_eq_true_eq] at hc1
  rw [goodAt, hj'] at hgj
  simp [hc1, e] at hgj
  rw [hgj.2] at h2
  omega
theorem fin_eq {u g n : Nat} {many gone : Int} (hu : u ≤ n) (hg : g ≤ n) (hn : n < 1152921504606846976) :
    (decide ((u : Int) = many) && decide ((g : Int) = gone) && decide (IntKind.i64.wrap (4 * IntKind.i64.wrap (many + gone)) ≤ IntKind.i64.wrap (3 * (n : Int)))) = (decide ((u : Int) = many) && decide ((g : Int) = gone) && decide (4 * (many + gone) ≤ 3 * (n : Int))) := by
  by_cases h1 : (u : Int) = many
  · by_cases h2 : (g : Int) = gone
    · rw [w64 (n := many + gone) (by omega) (by omega), w64 (by omega) (by omega), w64 (by omega) (by omega)]
    · simp [h2]
  · simp [h1]
theorem fin_eq' {u g n : Nat} {many gone : Int} (hu : u ≤ n) (hg : g ≤ n) (hn : n < 1152921504606846976) :
    (decide ((u : Int) = many) && decide ((g : Int) = gone) && decide (IntKind.i64.wrap (4 * IntKind.i64.wrap ((u : Int) + g)) ≤ IntKind.i64.wrap (3 * (n : Int)))) = (decide ((u : Int) = many) && decide ((g : Int) = gone) && decide (4 * (many + gone) ≤ 3 * (n : Int))) := by
  by_cases h1 : (u : Int) = many
  · by_cases h2 : (g : Int) = gone
    · rw [w64 (n := (u : Int) + g) (by omega) (by omega), w64 (by omega) (by omega), w64 (by omega) (by omega), h1, h2]
    · simp [h2]
  · simp [h1]
def right_inv (s : Sto) (m : Nat) (st : St) : Prop := ∃ i : Nat, m = s.bs.length - i ∧ i ≤ s.bs.length ∧ (∀ j, j < i → goodAt s.bs j = true) ∧
  st = ⟨73, [(18, .val (.int .i64 i)), (17, .val (.int .i64 s.bs.length)), (16, .rd 3 (rowsB s.bs)), (4, .val (.int .i64 (goneN (s.bs.take i)))), (3, .mp 72), (1, .ref 64 3 0 0)],
    [(64, ⟨31, 3, [[.rd 3 (rowsB s.bs), .val (.int .i64 s.many), .val (.int .i64 s.gone)]], .cells⟩), (72, ⟨0, 2, rowsK (keysB (s.bs.take i)), .map⟩)], 80⟩
theorem right_call (s : Sto) (hl : s.bs.length < 1152921504606846976) :
    CallOk Tryz.prog 32 [stoP s] [] (.val (.bool (rightB s))) [] := by
  refine .of_exec Tryz.func32 rfl (enters_32) rfl rfl (Nat.le_of_ble_eq_true rfl) (fun n _ => rfl) ?_
  simp
  refine .plain (size_call _ ⟨by omega, by omega⟩) (by simp) (by simp) ?_
  by_cases c0 : sizeB s.bs.length = true
  · simp [c0]
    refine WPg.loopW (right_inv s) ⟨s.bs.length, _, ?_, ⟨0, by simp, by simp, by simp, rfl⟩⟩ ?_
    · exact Wk.rn [(64, 64), (80, 72)] rfl (by simp) (by simp [goneN]) (by simp [RowsOk, RowOk, keysB, rowsK])
    rintro m st ⟨i, h1, h2, h3, rfl⟩
    by_cases hi : i < s.bs.length
    · have hi' : (i : Int) < s.bs.length := by omega
      have hw : IntKind.i64.wrap ((i : Int) + 1) = ((i + 1 : Nat) : Int) := by rw [w64 (by omega) (by omega)]; omega
      obtain ⟨b, hb⟩ : ∃ b, s.bs[i] = b := ⟨_, rfl⟩
      have hd : s.bs.getD i .free = b := by rw [List.getD_eq_getElem?_getD, List.getElem?_eq_getElem hi, hb]; rfl
      have hgn := goneN_le (s.bs.take i)
      rw [List.length_take] at hgn
      have hgw : IntKind.i64.wrap ((goneN (s.bs.take i) : Int) + 1) = ((goneN (s.bs.take i) + 1 : Nat) : Int) := by rw [w64 (by omega) (by omega)]; omega
      have hbad : goodAt s.bs i = false → rightB s = false := fun h => by
        have : (List.range s.bs.length).all (goodAt s.bs) = false := by
          rw [List.all_eq_false]
          exact ⟨i, List.mem_range.2 hi, by simp [h]⟩
        simp [rightB, this]
      simp [hi, hi', rowB, hb]
      refine .plain (may_call b) (by simp [rowB]) (by simp) ?_
      by_cases c1 : mayB b = true
      · simp [c1]
        by_cases c2 : b.st = 2
        · simp [c2, hgw]
          refine ⟨s.bs.length - (i + 1), by omega, _, ?_, ⟨i + 1, rfl, by omega, fun j hj => ?_, rfl⟩⟩
          · rw [hw]
            refine Wk.rn [(64, 64), (72, 72)] rfl (by simp) (by simp [goneN_take hi hb, c2]) (by simp [RowsOk, RowOk, keysB_take hi hb, c2])
          · by_cases e : j = i
            · subst e; simp [goodAt, hb, c1, c2, hi]
            · exact h3 j (by omega)
        · by_cases c3 : b.st = 1
          · simp [c3]
            refine .plain (find_call s b.lab (by omega)) (by simp) (by simp) ?_
            by_cases c4 : (findB s.bs b.lab).1 = i
            · have hfr := keys_fresh h3 hi c4
              simp [c4, findP_rowsK 0 hfr]
              refine ⟨s.bs.length - (i + 1), by omega, _, ?_, ⟨i + 1, rfl, by omega, fun j hj => ?_, rfl⟩⟩
              · rw [hw]
                refine Wk.rn [(64, 64), (72, 72)] rfl (by simp) (by simp [goneN_take hi hb, c3]) (by simp [RowsOk, RowOk, keysB_take hi hb, c3, rowsK_snoc])
              · by_cases e : j = i
                · subst e; simp [goodAt, hb, c1, c4, hi]
                · exact h3 j (by omega)
            · simp [c4]
              exact .plain (by simp) (by simp; rw [hbad]; simp [goodAt, hb, c4, c3, hi])
          · simp [c2, c3]
            refine ⟨s.bs.length - (i + 1), by omega, _, ?_, ⟨i + 1, rfl, by omega, fun j hj => ?_, rfl⟩⟩
            · rw [hw]
              refine Wk.rn [(64, 64), (72, 72)] rfl (by simp) (by simp [goneN_take hi hb, c2]) (by simp [RowsOk, RowOk, keysB_take hi hb, c3])
            · by_cases e : j = i
              · subst e; simp [goodAt, hb, c1, c3, hi]
              · exact h3 j (by omega)
      · simp [c1]
        exact .plain (by simp) (by simp; rw [hbad]; simp [goodAt, hb, c1, hi])
    · obtain rfl : i = s.bs.length := by omega
      have hall : (List.range s.bs.length).all (goodAt s.bs) = true := by
        rw [List.all_eq_true]
        exact fun j hj => h3 j (List.mem_range.1 hj)
      have hfin := fin_eq (many := s.many) (gone := s.gone) (usedN_le s.bs) (goneN_le s.bs) (by omega)
      simp
      exact .plain (by simp) (by simp [rightB, c0, hall, keysB_length, hfin])
  · simp [c0]
    exact .plain (by simp) (by simp [rightB, c0])
theorem dup_none {bs : List Bkt} {i k : Nat} {b c : Bkt} (hg : ∀ j, j < i → goodAt bs j = true) (hi : i < bs.length) (hb : bs[i] = b) (hgi : goodAt bs i = true) (hk : k < i) (hc : bs[k]'(by omega) = c) : (decide (b.st = 1) && decide (c.st = 1) && decide (c.lab = b.lab)) = false := by
  by_cases c1 : b.st = 1
  · by_cases c2 : c.st = 1
    · have hd : bs.getD i .free = b := by rw [List.getD_eq_getElem?_getD, List.getElem?_eq_getElem hi, hb]; rfl
      rw [goodAt, hd] at hgi
      simp [c1] at hgi
      have := keys_fresh hg hi hgi.2
      have hm : c.lab ∈ keysB (bs.take i) := List.mem_map.2 ⟨c, List.mem_filter.2 ⟨List.mem_iff_getElem.2 ⟨k, by rw [List.length_take]; omega, by simpa using hc⟩, by simpa using c2⟩, rfl⟩
      have hne : c.lab ≠ b.lab := fun e => this (by rw [← e]; exact hm)
      simp [hne]
    · simp [c2]
  · simp [c1]
theorem bad_of {b : Bool} (h : ¬ b = true) : b = false := by cases b <;> simp at h ⊢
def refright_inv (s : Sto) (m : Nat) (st : St) : Prop := ∃ i : Nat, m = s.bs.length - i ∧ i ≤ s.bs.length ∧ (∀ j, j < i → goodAt s.bs j = true) ∧
  st = ⟨120, [(5, .val (.int .i64 i)), (4, .val (.int .i64 (goneN (s.bs.take i)))), (3, .val (.int .i64 (usedN (s.bs.take i)))), (1, .ref 64 3 0 0)],
    [(64, ⟨31, 3, [[.rd 3 (rowsB s.bs), .val (.int .i64 s.many), .val (.int .i64 s.gone)]], .cells⟩)], 72⟩
def refright_in (s : Sto) (i : Nat) (u g : Int) (m : Nat) (st : St) : Prop := ∃ k : Nat, m = i - k ∧ k ≤ i ∧
  st = ⟨120, [(9, .val (.int .i64 k)), (6, .ref 72 3 0 0), (5, .val (.int .i64 i)), (4, .val (.int .i64 g)), (3, .val (.int .i64 u)), (1, .ref 64 3 0 0)],
    [(72, ⟨95, 3, [rowB (s.bs.getD i .free)], .cells⟩), (64, ⟨31, 3, [[.rd 3 (rowsB s.bs), .val (.int .i64 s.many), .val (.int .i64 s.gone)]], .cells⟩)], 80⟩
theorem refright_call (s : Sto) (hl : s.bs.length < 1152921504606846976) :
    CallOk Tryz.prog 33 [stoP s] [] (.val (.bool (rightB s))) [] := by
  refine .of_exec Tryz.func33 rfl (enters_33) rfl rfl (Nat.le_of_ble_eq_true rfl) (fun n _ => rfl) ?_
  simp
  refine .plain (refsize_call _) (by simp) (by simp) ?_
  by_cases c0 : sizeB s.bs.length = true
  · simp [c0]
    refine WPg.loopW (refright_inv s) ⟨s.bs.length, _, ?_, ⟨0, by simp, by simp, by simp, rfl⟩⟩ ?_
    · exact Wk.rn [(64, 64)] rfl (by simp) (by simp [goneN, usedN]) (by simp [RowsOk, RowOk])
    rintro m st ⟨i, h1, h2, h3, rfl⟩
    by_cases hi : i < s.bs.length
    · have hi' : (i : Int) < s.bs.length := by omega
      have hw : IntKind.i64.wrap ((i : Int) + 1) = ((i + 1 : Nat) : Int) := by rw [w64 (by omega) (by omega)]; omega
      obtain ⟨b, hb⟩ : ∃ b, s.bs[i] = b := ⟨_, rfl⟩
      have hd : s.bs.getD i .free = b := by rw [List.getD_eq_getElem?_getD, List.getElem?_eq_getElem hi, hb]; rfl
      have hgn := goneN_le (s.bs.take i)
      have hun := usedN_le (s.bs.take i)
      rw [List.length_take] at hgn hun
      have hgw : IntKind.i64.wrap ((goneN (s.bs.take i) : Int) + 1) = ((goneN (s.bs.take i) + 1 : Nat) : Int) := by rw [w64 (by omega) (by omega)]; omega
      have huw : IntKind.i64.wrap ((usedN (s.bs.take i) : Int) + 1) = ((usedN (s.bs.take i) + 1 : Nat) : Int) := by rw [w64 (by omega) (by omega)]; omega
      have hbad : goodAt s.bs i = false → rightB s = false := fun h => by
        have : (List.range s.bs.length).all (goodAt s.bs) = false := by
          rw [List.all_eq_false]
          exact ⟨i, List.mem_range.2 hi, by simp [h]⟩
        simp [rightB, this]
      by_cases c3 : b.st = 1
      · simp [hi, hi', rowB, hb, c3]
        refine .plain (reffind_call s b.lab (by omega)) (by simp) (by simp) ?_
        simp [huw]
        refine ⟨fun h => .plain (by simp) (by simp; rw [hbad]; exact bad_of (fun hgd => by simp [goodAt, hi, hb, mayB, c3] at hgd; simp [hgd] at h)), fun ha hc hf => ?_⟩
        have hg : goodAt s.bs i = true := by simp [goodAt, hi, hb, mayB, c3, ha, hc, hf]
        refine WPg.loopW (refright_in s i (usedN (s.bs.take (i + 1))) (goneN (s.bs.take (i + 1)))) ⟨i, _, ?_, ⟨0, by simp, by simp, rfl⟩⟩ ?_
        · exact Wk.rn [(64, 64), (152, 72)] rfl (by simp) (by simp [goneN_take hi hb, usedN_take hi hb, c3]) (by simp [RowsOk, RowOk, hi, hb, rowB, c3])
        rintro m' st ⟨k, g1, g2, rfl⟩
        by_cases hk : k < i
        · have hk' : (k : Int) < i := by omega
          have hkl : k < s.bs.length := by omega
          have hw' : IntKind.i64.wrap ((k : Int) + 1) = ((k + 1 : Nat) : Int) := by rw [w64 (by omega) (by omega)]; omega
          obtain ⟨c, hc⟩ : ∃ c, s.bs[k] = c := ⟨_, rfl⟩
          have hdup := dup_none h3 hi hb hg hk hc
          simp [hk, hk', hkl, rowB, hi, hb, hc, c3]
          simp [c3] at hdup
          refine ⟨rfl, fun e1 e2 => absurd e2 (hdup e1), fun _ => ?_⟩
          refine ⟨i - (k + 1), by omega, _, ?_, ⟨k + 1, rfl, by omega, rfl⟩⟩
          rw [hw']
          exact Wk.rn [(64, 64), (72, 72)] rfl (by simp) (by simp) (by simp [RowsOk, RowOk, hi, hb, rowB, c3])
        · obtain rfl : k = i := by omega
          simp [hw]
          refine ⟨s.bs.length - (k + 1), by omega, _, ?_, ⟨k + 1, rfl, by omega, fun j hj => ?_, rfl⟩⟩
          · exact Wk.rn [(64, 64)] rfl (by simp) (by simp) (by simp [RowsOk, RowOk])
          · by_cases e : j = k
            · subst e; exact hg
            · exact h3 j (by omega)
      · by_cases c2 : b.st = 2
        · simp [hi, hi', rowB, hb, c2, hgw]
          refine ⟨fun h => .plain (by simp) (by simp; rw [hbad]; exact bad_of (fun hgd => by simp [goodAt, hi, hb, mayB, c2] at hgd; simp [hgd] at h)), fun ha hc => ?_⟩
          have hg : goodAt s.bs i = true := by simp [goodAt, hi, hb, mayB, c2, ha, hc]
          refine WPg.loopW (refright_in s i (usedN (s.bs.take (i + 1))) (goneN (s.bs.take (i + 1)))) ⟨i, _, ?_, ⟨0, by simp, by simp, rfl⟩⟩ ?_
          · exact Wk.rn [(64, 64), (152, 72)] rfl (by simp) (by simp [goneN_take hi hb, usedN_take hi hb, c2]) (by simp [RowsOk, RowOk, hi, hb, rowB, c2])
          rintro m' st ⟨k, g1, g2, rfl⟩
          by_cases hk : k < i
          · have hk' : (k : Int) < i := by omega
            have hkl : k < s.bs.length := by omega
            have hw' : IntKind.i64.wrap ((k : Int) + 1) = ((k + 1 : Nat) : Int) := by rw [w64 (by omega) (by omega)]; omega
            obtain ⟨c, hc⟩ : ∃ c, s.bs[k] = c := ⟨_, rfl⟩
            have hdup := dup_none h3 hi hb hg hk hc
            simp [hk, hk', hkl, rowB, hi, hb, hc, c2]
            refine ⟨rfl, ?_⟩
            refine ⟨i - (k + 1), by omega, _, ?_, ⟨k + 1, rfl, by omega, rfl⟩⟩
            rw [hw']
            exact Wk.rn [(64, 64), (72, 72)] rfl (by simp) (by simp) (by simp [RowsOk, RowOk, hi, hb, rowB, c2])
          · obtain rfl : k = i := by omega
            simp [hw]
            refine ⟨s.bs.length - (k + 1), by omega, _, ?_, ⟨k + 1, rfl, by omega, fun j hj => ?_, rfl⟩⟩
            · exact Wk.rn [(64, 64)] rfl (by simp) (by simp) (by simp [RowsOk, RowOk])
            · by_cases e : j = k
              · subst e; exact hg
              · exact h3 j (by omega)
        · by_cases c1 : b.st = 0
          · simp [hi, hi', rowB, hb, c1, hgw]
            refine ⟨fun h => .plain (by simp) (by simp; rw [hbad]; exact bad_of (fun hgd => by simp [goodAt, hi, hb, mayB, c1] at hgd; simp [hgd] at h)), fun ha hc => ?_⟩
            have hg : goodAt s.bs i = true := by simp [goodAt, hi, hb, mayB, c1, ha, hc]
            refine WPg.loopW (refright_in s i (usedN (s.bs.take (i + 1))) (goneN (s.bs.take (i + 1)))) ⟨i, _, ?_, ⟨0, by simp, by simp, rfl⟩⟩ ?_
            · exact Wk.rn [(64, 64), (152, 72)] rfl (by simp) (by simp [goneN_take hi hb, usedN_take hi hb, c1]) (by simp [RowsOk, RowOk, hi, hb, rowB, c1])
            rintro m' st ⟨k, g1, g2, rfl⟩
            by_cases hk : k < i
            · have hk' : (k : Int) < i := by omega
              have hkl : k < s.bs.length := by omega
              have hw' : IntKind.i64.wrap ((k : Int) + 1) = ((k + 1 : Nat) : Int) := by rw [w64 (by omega) (by omega)]; omega
              obtain ⟨c, hc⟩ : ∃ c, s.bs[k] = c := ⟨_, rfl⟩
              have hdup := dup_none h3 hi hb hg hk hc
              simp [hk, hk', hkl, rowB, hi, hb, hc, c1]
              refine ⟨rfl, ?_⟩
              refine ⟨i - (k + 1), by omega, _, ?_, ⟨k + 1, rfl, by omega, rfl⟩⟩
              rw [hw']
              exact Wk.rn [(64, 64), (72, 72)] rfl (by simp) (by simp) (by simp [RowsOk, RowOk, hi, hb, rowB, c1])
            · obtain rfl : k = i := by omega
              simp [hw]
              refine ⟨s.bs.length - (k + 1), by omega, _, ?_, ⟨k + 1, rfl, by omega, fun j hj => ?_, rfl⟩⟩
              · exact Wk.rn [(64, 64)] rfl (by simp) (by simp) (by simp [RowsOk, RowOk])
              · by_cases e : j = k
                · subst e; exact hg
                · exact h3 j (by omega)
          · simp [hi, hi', rowB, hb, c1, c2, c3]
            exact .plain (by simp) (by simp; rw [hbad]; simp [goodAt, hi, hb, mayB, c1, c2, c3])
    · obtain rfl : i = s.bs.length := by omega
      have hall : (List.range s.bs.length).all (goodAt s.bs) = true := by
        rw [List.all_eq_true]
        exact fun j hj => h3 j (List.mem_range.1 hj)
      have hfin := fin_eq' (many := s.many) (gone := s.gone) (usedN_le s.bs) (goneN_le s.bs) (by omega)
      simp
      exact .plain (by simp) (by simp [rightB, c0, hall, hfin])
  · simp [c0]
    exact .plain (by simp) (by simp [rightB, c0])
end Go.Proofs.YtbigcojlpcchiaaGreat.Sy.Bk

namespace Go.Proofs.YtbigcojlpcchiaaGreat.Sy.Bk
open Go Go.RowKit
set_option linter.unusedVariables false
set_option linter.unusedSimpArgs false
set_option maxRecDepth 10000
set_option maxHeartbeats 4000000
abbrev ownP (n : Nat) (many gone : Int) : PV := .agg [.sl 0 3 0 n, .val (.int .i64 many), .val (.int .i64 gone)]
abbrev eI (e : Int) : PV := .val (.int .i64 e)
theorem new_bad {n : Int} (hn : isI64 n) (h : sizeB n = false) : CallOk Tryz.prog 29 [.val (.int .i64 n)] [] (.tup [stoP ⟨[], 0, 0⟩, eI 1]) [] := by
  refine .of_exec Tryz.func29 rfl (enters_29) rfl rfl (Nat.le_of_ble_eq_true rfl) (fun n _ => rfl) ?_
  simp
  refine .plain (size_call _ hn) (by simp) (by simp) ?_
  simp [h]
  exact .wk _ (Wk.nilRdB 3 [64]) (by simp) (by simp)
theorem size_le {n : Int} (h : sizeB n = true) : 8 ≤ n ∧ n ≤ 4096 := by
  simp [sizeB] at h
  omega
theorem new_call {n : Nat} (h : sizeB n = true) : CallOk Tryz.prog 29 [.val (.int .i64 n)] [] (.tup [stoP ⟨List.replicate n .free, 0, 0⟩, eI 0]) [] := by
  refine .of_exec Tryz.func29 rfl (enters_29) rfl rfl (Nat.le_of_ble_eq_true rfl) (fun n _ => rfl) ?_
  have hn := size_le h
  simp
  refine .plain (size_call _ ⟨by omega, by omega⟩) (by simp) (by simp) ?_
  simp [h]
  refine ⟨⟨by omega, by omega⟩, fun _ _ => .frz [112] [2, 3] (by simp) (by simp) (by simp) (by simp) (by simp)⟩
theorem new_own {n : Nat} (h : sizeB n = true) : CallOk Tryz.prog 29 [.val (.int .i64 n)] [] (.tup [ownP n 0 0, eI 0]) [(0, ⟨95, 3, rowsB (List.replicate n .free), .cells⟩)] := by
  refine .of_exec Tryz.func29 rfl (enters_29) rfl rfl (Nat.le_of_ble_eq_true rfl) (fun n _ => rfl) ?_
  have hn := size_le h
  simp
  refine .plain (size_call _ ⟨by omega, by omega⟩) (by simp) (by simp) ?_
  simp [h]
  refine ⟨⟨by omega, by omega⟩, fun _ _ => .own [(112, 0)] (by simp) (by simp) (by simp) (by simp) (by simp)⟩
theorem refnew_bad {n : Int} (hn : isI64 n) (h : sizeB n = false) : CallOk Tryz.prog 30 [.val (.int .i64 n)] [] (.tup [stoP ⟨[], 0, 0⟩, eI 1]) [] := by
  refine .of_exec Tryz.func30 rfl (enters_30) rfl rfl (Nat.le_of_ble_eq_true rfl) (fun n _ => rfl) ?_
  simp
  refine .plain (refsize_call _) (by simp) (by simp) ?_
  simp [h]
  exact .wk _ (Wk.nilRdB 3 [64]) (by simp) (by simp)
theorem refnew_call {n : Nat} (h : sizeB n = true) : CallOk Tryz.prog 30 [.val (.int .i64 n)] [] (.tup [stoP ⟨List.replicate n .free, 0, 0⟩, eI 0]) [] := by
  refine .of_exec Tryz.func30 rfl (enters_30) rfl rfl (Nat.le_of_ble_eq_true rfl) (fun n _ => rfl) ?_
  have hn := size_le h
  simp
  refine .plain (refsize_call _) (by simp) (by simp) ?_
  simp [h]
  refine ⟨⟨by omega, by omega⟩, fun _ _ => .frz [112] [2, 3] (by simp) (by simp) (by simp) (by simp) (by simp)⟩
theorem refnew_own {n : Nat} (h : sizeB n = true) : CallOk Tryz.prog 30 [.val (.int .i64 n)] [] (.tup [ownP n 0 0, eI 0]) [(0, ⟨95, 3, rowsB (List.replicate n .free), .cells⟩)] := by
  refine .of_exec Tryz.func30 rfl (enters_30) rfl rfl (Nat.le_of_ble_eq_true rfl) (fun n _ => rfl) ?_
  have hn := size_le h
  simp
  refine .plain (refsize_call _) (by simp) (by simp) ?_
  simp [h]
  refine ⟨⟨by omega, by omega⟩, fun _ _ => .own [(112, 0)] (by simp) (by simp) (by simp) (by simp) (by simp)⟩
end Go.Proofs.YtbigcojlpcchiaaGreat.Sy.Bk

namespace Go.Proofs.YtbigcojlpcchiaaGreat.Sy.Bk
open Go Go.RowKit
set_option linter.unusedVariables false
set_option linter.unusedSimpArgs false
set_option maxRecDepth 10000
set_option maxHeartbeats 4000000
theorem clone_own {bs : List Bkt} (h : bs ≠ []) (hl : bs.length < 1000000) : CallOk Tryz.prog 59 [.rd 3 (rowsB bs)] [] (.sl 0 3 0 bs.length) [(0, ⟨95, 3, rowsB bs, .cells⟩)] := by
  refine .of_exec Tryz.func59 rfl (enters_59) rfl rfl (Nat.le_of_ble_eq_true rfl) (fun n _ => rfl) ?_
  have hp : 0 < bs.length := List.length_pos_iff.2 h
  simp [h, hp]
  exact ⟨⟨by omega, by omega⟩, fun _ _ => .own [(104, 0)] (by simp) (by simp) (by simp) (by simp) (by simp)⟩
theorem clone_call {bs : List Bkt} (hl : bs.length < 1000000) : CallOk Tryz.prog 59 [.rd 3 (rowsB bs)] [] (.rd 3 (rowsB bs)) [] := by
  refine .of_exec Tryz.func59 rfl (enters_59) rfl rfl (Nat.le_of_ble_eq_true rfl) (fun n _ => rfl) ?_
  by_cases h : bs = []
  · subst h
    simp
    exact ⟨.wk _ (Wk.nilRd 3 [(2, .rd 3 [])] (by simp)) (by simp) (by simp), .frz [104] [2] (by simp) (by simp) (by simp) (by simp) (by simp)⟩
  · have hp : 0 < bs.length := List.length_pos_iff.2 h
    simp [h, hp]
    exact ⟨⟨by omega, by omega⟩, fun _ _ => .frz [104] [2] (by simp) (by simp) (by simp) (by simp) (by simp)⟩
theorem own_own {s : Sto} (h : s.bs ≠ []) (hl : s.bs.length < 1000000) : CallOk Tryz.prog 123 [stoP s] [] (ownP s.bs.length s.many s.gone) [(0, ⟨95, 3, rowsB s.bs, .cells⟩)] := by
  refine .of_exec Tryz.func123 rfl (enters_123) rfl rfl (Nat.le_of_ble_eq_true rfl) (fun n _ => rfl) ?_
  simp
  refine callK.own [] [] (clone_own h hl) (by simp) (by simp) (by simp) (by simp) (by simp) (by simp) (by simp) (by simp) (by simp) (by simp) ?_
  simp
  exact .own [(96, 0)] (by simp) (by simp) (by simp) (by simp) (by simp)
theorem own_call {s : Sto} (hl : s.bs.length < 1000000) : CallOk Tryz.prog 123 [stoP s] [] (stoP s) [] := by
  refine .of_exec Tryz.func123 rfl (enters_123) rfl rfl (Nat.le_of_ble_eq_true rfl) (fun n _ => rfl) ?_
  simp
  refine .plain (clone_call hl) (by simp) (by simp) ?_
  simp
  exact .plain (by simp) (by simp)
theorem refown_own {s : Sto} (hl : s.bs.length < 1000000) : CallOk Tryz.prog 70 [stoP s] [] (ownP s.bs.length s.many s.gone) [(0, ⟨95, 3, rowsB s.bs, .cells⟩)] := by
  refine .of_exec Tryz.func70 rfl (enters_70) rfl rfl (Nat.le_of_ble_eq_true rfl) (fun n _ => rfl) ?_
  simp
  exact ⟨⟨by omega, by omega⟩, fun _ _ => ⟨rfl, .own [(96, 0)] (by simp) (by simp) (by simp) (by simp) (by simp)⟩⟩
theorem refown_call {s : Sto} (hl : s.bs.length < 1000000) : CallOk Tryz.prog 70 [stoP s] [] (stoP s) [] := by
  refine .of_exec Tryz.func70 rfl (enters_70) rfl rfl (Nat.le_of_ble_eq_true rfl) (fun n _ => rfl) ?_
  simp
  exact ⟨⟨by omega, by omega⟩, fun _ _ => ⟨rfl, .frz [96] [2] (by simp) (by simp) (by simp) (by simp) (by simp)⟩⟩
end Go.Proofs.YtbigcojlpcchiaaGreat.Sy.Bk

namespace Go.Proofs.YtbigcojlpcchiaaGreat.Sy.Bk
open Go Go.RowKit
set_option linter.unusedVariables false
set_option linter.unusedSimpArgs false
set_option maxRecDepth 10000
set_option maxHeartbeats 4000000
/-- A label is set at its room. -/
def setS (s : Sto) (lab cell : ByteArray) : Sto :=
  let k := (findB s.bs lab).2.toNat
  ⟨s.bs.set k ⟨1, lab, cell⟩, s.many + 1, if (s.bs.getD k .free).st = 2 then s.gone - 1 else s.gone⟩
def small (n : Int) : Prop := -1000000 ≤ n ∧ n ≤ 1000000
theorem set_own {s : Sto} {lab cell : ByteArray} {k : Nat} (hl : s.bs.length < 1000000) (hm : small s.many) (hg : small s.gone) (hk : k < s.bs.length) (hr : (findB s.bs lab).2 = k) :
    CallOk Tryz.prog 125 [ownP s.bs.length s.many s.gone, .val (.string lab), .val (.string cell)] [(0, ⟨95, 3, rowsB s.bs, .cells⟩)]
      (ownP s.bs.length (setS s lab cell).many (setS s lab cell).gone) [(0, ⟨95, 3, rowsB (setS s lab cell).bs, .cells⟩)] := by
  refine .of_exec Tryz.func125 rfl (enters_125) rfl rfl (Nat.le_of_ble_eq_true rfl) (fun n h => by simp; omega) ?_
  simp
  refine .lent [0] (find_call s lab (by omega)) (by simp) (by simp) (by simp) (by simp) (by simp) (by simp) ?_
  obtain ⟨b, hb⟩ : ∃ b, s.bs[k] = b := ⟨_, rfl⟩
  have w1 : IntKind.i64.wrap (s.many + 1) = s.many + 1 := by unfold small at hm; exact w64 (by omega) (by omega)
  have w2 : IntKind.i64.wrap (s.gone - 1) = s.gone - 1 := by unfold small at hg; exact w64 (by omega) (by omega)
  have hk' : (k : Int) < s.bs.length := by omega
  by_cases c2 : b.st = 2
  · simp [hr, hk, hk', hb, rowB, c2, w1, w2]
    exact .own [(0, 0)] (by simp) (by simp) (by simp [setS, hr]) (by simp) (by simp [setS, hr, hk, hb, c2])
  · simp [hr, hk, hk', hb, rowB, c2, w1, w2]
    exact .own [(0, 0)] (by simp) (by simp) (by simp [setS, hr]) (by simp) (by simp [setS, hr, hk, hb, c2])
theorem refset_own {s : Sto} {lab cell : ByteArray} {k : Nat} (hl : s.bs.length < 1000000) (hm : small s.many) (hg : small s.gone) (hk : k < s.bs.length) (hr : (findB s.bs lab).2 = k) :
    CallOk Tryz.prog 96 [ownP s.bs.length s.many s.gone, .val (.string lab), .val (.string cell)] [(0, ⟨95, 3, rowsB s.bs, .cells⟩)]
      (ownP s.bs.length (setS s lab cell).many (setS s lab cell).gone) [(0, ⟨95, 3, rowsB (setS s lab cell).bs, .cells⟩)] := by
  refine .of_exec Tryz.func96 rfl (enters_96) rfl rfl (Nat.le_of_ble_eq_true rfl) (fun n h => by simp; omega) ?_
  simp
  refine .lent [0] (reffind_call s lab (by omega)) (by simp) (by simp) (by simp) (by simp) (by simp) (by simp) ?_
  obtain ⟨b, hb⟩ : ∃ b, s.bs[k] = b := ⟨_, rfl⟩
  have w1 : IntKind.i64.wrap (s.many + 1) = s.many + 1 := by unfold small at hm; exact w64 (by omega) (by omega)
  have w2 : IntKind.i64.wrap (s.gone - 1) = s.gone - 1 := by unfold small at hg; exact w64 (by omega) (by omega)
  have hk' : (k : Int) < s.bs.length := by omega
  by_cases c2 : b.st = 2
  · simp [hr, hk, hk', hb, rowB, c2, w1, w2]
    exact .own [(0, 0)] (by simp) (by simp) (by simp [setS, hr]) (by simp) (by simp [setS, hr, hk, hb, c2])
  · simp [hr, hk, hk', hb, rowB, c2, w1, w2]
    exact .own [(0, 0)] (by simp) (by simp) (by simp [setS, hr]) (by simp) (by simp [setS, hr, hk, hb, c2])
end Go.Proofs.YtbigcojlpcchiaaGreat.Sy.Bk

namespace Go.Proofs.YtbigcojlpcchiaaGreat.Sy.Bk
open Go Go.RowKit
set_option linter.unusedVariables false
set_option linter.unusedSimpArgs false
theorem place_lt {n home i : Nat} (h : 0 < n) : placeN n home i < n := Nat.mod_lt _ h
/-- Every place is on every way. -/
theorem place_onto {n home j : Nat} (hj : j < n) : ∃ i, i < n ∧ placeN n home i = j := by
  refine ⟨(j + n - home % n) % n, Nat.mod_lt _ (by omega), ?_⟩
  have h1 : home % n < n := Nat.mod_lt _ (by omega)
  unfold placeN
  rw [Nat.add_mod, Nat.mod_mod]
  by_cases h : home % n ≤ j
  · have e : (j + n - home % n) % n = j - home % n := by
      rw [show j + n - home % n = (j - home % n) + n by omega, Nat.add_mod_right, Nat.mod_eq_of_lt (by omega)]
    rw [e, show home % n + (j - home % n) = j by omega, Nat.mod_eq_of_lt hj]
  · have e : (j + n - home % n) % n = j + n - home % n := Nat.mod_eq_of_lt (by omega)
    rw [e, show home % n + (j + n - home % n) = j + n by omega, Nat.add_mod_right, Nat.mod_eq_of_lt hj]
/-- What a scan tells when it tells a place. -/
theorem scan_hit {bs : List Bkt} {lab : ByteArray} {home : Nat} (hn : 0 < bs.length) : ∀ (m i : Nat) (room : Int), (scanB bs lab home m i room).1 = -1 ∨
    ∃ i', i ≤ i' ∧ i' < i + m ∧ (scanB bs lab home m i room).1 = (placeN bs.length home i' : Nat) ∧ (bs.getD (placeN bs.length home i') .free).st = 1 ∧ (bs.getD (placeN bs.length home i') .free).lab = lab ∧
      ∀ i'', i ≤ i'' → i'' < i' → (bs.getD (placeN bs.length home i'') .free).st ≠ 0 ∧ ¬ ((bs.getD (placeN bs.length home i'') .free).st = 1 ∧ (bs.getD (placeN bs.length home i'') .free).lab = lab)
  | 0, i, room => .inl rfl
  | m + 1, i, room => by
    rw [scanB_succ bs lab home m i room rfl]
    obtain ⟨b, hb⟩ : ∃ b, bs.getD (placeN bs.length home i) .free = b := ⟨_, rfl⟩
    have step : ∀ r, b.st ≠ 0 → ¬ (b.st = 1 ∧ b.lab = lab) → (scanB bs lab home m (i + 1) r).1 = -1 ∨
        ∃ i', i ≤ i' ∧ i' < i + (m + 1) ∧ (scanB bs lab home m (i + 1) r).1 = (placeN bs.length home i' : Nat) ∧ (bs.getD (placeN bs.length home i') .free).st = 1 ∧ (bs.getD (placeN bs.length home i') .free).lab = lab ∧
          ∀ i'', i ≤ i'' → i'' < i' → (bs.getD (placeN bs.length home i'') .free).st ≠ 0 ∧ ¬ ((bs.getD (placeN bs.length home i'') .free).st = 1 ∧ (bs.getD (placeN bs.length home i'') .free).lab = lab) := by
      intro r g1 g2
      rcases scan_hit hn m (i + 1) r with h | ⟨i', h1, h2, h3, h4, h5, h6⟩
      · exact .inl h
      · refine .inr ⟨i', by omega, by omega, h3, h4, h5, fun i'' k1 k2 => ?_⟩
        by_cases e : i'' = i
        · subst e; rw [hb]; exact ⟨g1, g2⟩
        · exact h6 i'' (by omega) k2
    rw [hb]
    by_cases c1 : b.st = 1
    · by_cases c2 : b.lab = lab
      · rw [if_pos c1, if_pos c2]
        exact .inr ⟨i, Nat.le_refl _, by omega, rfl, by rw [hb]; exact c1, by rw [hb]; exact c2, fun i'' k1 k2 => by omega⟩
      · rw [if_pos c1, if_neg c2]
        exact step _ (by omega) (fun h => c2 h.2)
    · rw [if_neg c1]
      by_cases c3 : b.st = 0
      · rw [if_pos c3]; exact .inl rfl
      · rw [if_neg c3]
        exact step _ c3 (fun h => c1 h.1)
/-- A scan that tells no place: the label is not ahead of the first Free one. -/
theorem scan_miss {bs : List Bkt} {lab : ByteArray} {home : Nat} (hn : 0 < bs.length) : ∀ (m i : Nat) (room : Int), (scanB bs lab home m i room).1 = -1 →
    ∀ i', i ≤ i' → i' < i + m → (bs.getD (placeN bs.length home i') .free).st = 1 → (bs.getD (placeN bs.length home i') .free).lab = lab → ∃ i'', i ≤ i'' ∧ i'' < i' ∧ (bs.getD (placeN bs.length home i'') .free).st = 0
  | 0, i, room, _, i', h1, h2, _, _ => by omega
  | m + 1, i, room, h, i', h1, h2, h3, h4 => by
    rw [scanB_succ bs lab home m i room rfl] at h
    obtain ⟨b, hb⟩ : ∃ b, bs.getD (placeN bs.length home i) .free = b := ⟨_, rfl⟩
    rw [hb] at h
    have step : ∀ r, (scanB bs lab home m (i + 1) r).1 = -1 → ¬ (b.st = 1 ∧ b.lab = lab) → ∃ i'', i ≤ i'' ∧ i'' < i' ∧ (bs.getD (placeN bs.length home i'') .free).st = 0 := by
      intro r g hne
      by_cases e : i' = i
      · subst e; rw [hb] at h3 h4; exact absurd ⟨h3, h4⟩ hne
      · obtain ⟨i'', k1, k2, k3⟩ := scan_miss hn m (i + 1) r g i' (by omega) (by omega) h3 h4
        exact ⟨i'', by omega, k2, k3⟩
    by_cases c1 : b.st = 1
    · by_cases c2 : b.lab = lab
      · rw [if_pos c1, if_pos c2] at h
        simp only at h
        omega
      · rw [if_pos c1, if_neg c2] at h
        exact step _ h (fun h => c2 h.2)
    · rw [if_neg c1] at h
      by_cases c3 : b.st = 0
      · by_cases e : i' = i
        · subst e; rw [hb] at h3; omega
        · exact ⟨i, Nat.le_refl _, by omega, by rw [hb]; exact c3⟩
      · rw [if_neg c3] at h
        exact step _ h (fun h => c1 h.1)
/-- The room that a scan tells: the first place that is not Used, up to the first Free one. -/
theorem scan_room {bs : List Bkt} {lab : ByteArray} {home : Nat} (hn : 0 < bs.length) : ∀ (m i : Nat) (room : Int), (room = -1 ∨ 0 ≤ room) →
    (0 ≤ room ∧ (scanB bs lab home m i room).2 = room) ∨ (room = -1 ∧ ((scanB bs lab home m i room).2 = -1 ∧ (∀ i', i ≤ i' → i' < i + m → (scanB bs lab home m i room).1 = -1 → (bs.getD (placeN bs.length home i') .free).st = 1) ∨
      ∃ i', i ≤ i' ∧ i' < i + m ∧ (scanB bs lab home m i room).2 = (placeN bs.length home i' : Nat) ∧ (bs.getD (placeN bs.length home i') .free).st ≠ 1 ∧ ∀ i'', i ≤ i'' → i'' < i' → (bs.getD (placeN bs.length home i'') .free).st = 1))
  | 0, i, room, h => by
    rcases h with h | h
    · exact .inr ⟨h, .inl ⟨h, fun i' h1 h2 => by omega⟩⟩
    · exact .inl ⟨h, rfl⟩
  | m + 1, i, room, h => by
    rw [scanB_succ bs lab home m i room rfl]
    obtain ⟨b, hb⟩ : ∃ b, bs.getD (placeN bs.length home i) .free = b := ⟨_, rfl⟩
    rw [hb]
    by_cases c1 : b.st = 1
    · rw [if_pos c1]
      by_cases c2 : b.lab = lab
      · rw [if_pos c2]
        rcases h with h | h
        · exact .inr ⟨h, .inl ⟨h, fun i' _ _ h' => by simp only at h'; omega⟩⟩
        · exact .inl ⟨h, rfl⟩
      · rw [if_neg c2]
        rcases scan_room hn m (i + 1) room h with g | ⟨g, g'⟩
        · exact .inl g
        · refine .inr ⟨g, ?_⟩
          rcases g' with ⟨g1, g2⟩ | ⟨i', g1, g2, g3, g4, g5⟩
          · refine .inl ⟨g1, fun i' h1 h2 h3 => ?_⟩
            by_cases e : i' = i
            · subst e; rw [hb]; exact c1
            · exact g2 i' (by omega) (by omega) h3
          · refine .inr ⟨i', by omega, by omega, g3, g4, fun i'' k1 k2 => ?_⟩
            by_cases e : i'' = i
            · subst e; rw [hb]; exact c1
            · exact g5 i'' (by omega) k2
    · rw [if_neg c1]
      have hr : (if room < 0 then (placeN bs.length home i : Int) else room) = -1 ∨ 0 ≤ (if room < 0 then (placeN bs.length home i : Int) else room) := by
        split <;> omega
      have key : ∀ p : Int × Int, p.2 = (if room < 0 then (placeN bs.length home i : Int) else room) →
          (0 ≤ room ∧ p.2 = room) ∨ (room = -1 ∧ (p.2 = -1 ∧ (∀ i', i ≤ i' → i' < i + (m + 1) → p.1 = -1 → (bs.getD (placeN bs.length home i') .free).st = 1) ∨
          ∃ i', i ≤ i' ∧ i' < i + (m + 1) ∧ p.2 = (placeN bs.length home i' : Nat) ∧ (bs.getD (placeN bs.length home i') .free).st ≠ 1 ∧ ∀ i'', i ≤ i'' → i'' < i' → (bs.getD (placeN bs.length home i'') .free).st = 1)) := by
        intro p hp
        by_cases c : room < 0
        · rw [if_pos c] at hp
          exact .inr ⟨by omega, .inr ⟨i, Nat.le_refl _, by omega, hp, by rw [hb]; exact c1, fun i'' k1 k2 => by omega⟩⟩
        · rw [if_neg c] at hp
          exact .inl ⟨by omega, hp⟩
      by_cases c3 : b.st = 0
      · rw [if_pos c3]; exact key _ rfl
      · rw [if_neg c3]
        refine key _ ?_
        rcases scan_room hn m (i + 1) _ hr with ⟨_, g⟩ | ⟨g, _⟩
        · exact g
        · split at g <;> omega
/-- The place that find tells holds the label. -/
theorem find_hit {bs : List Bkt} {lab : ByteArray} (hn : 0 < bs.length) : (findB bs lab).1 = -1 ∨ ∃ k : Nat, k < bs.length ∧ (findB bs lab).1 = k ∧ (bs.getD k .free).st = 1 ∧ (bs.getD k .free).lab = lab := by
  rcases scan_hit (lab := lab) (home := homeN lab bs.length) hn bs.length 0 (-1) with h | ⟨i', h1, h2, h3, h4, h5, _⟩
  · exact .inl h
  · exact .inr ⟨_, place_lt hn, h3, h4, h5⟩
/-- Where not all is Used there is room. -/
theorem find_room {bs : List Bkt} {lab : ByteArray} (hu : usedN bs < bs.length) (h : (findB bs lab).1 = -1) : ∃ k : Nat, k < bs.length ∧ (findB bs lab).2 = k ∧ (bs.getD k .free).st ≠ 1 := by
  have hn : 0 < bs.length := by omega
  rcases scan_room (lab := lab) (home := homeN lab bs.length) hn bs.length 0 (-1) (.inl rfl) with ⟨g, _⟩ | ⟨_, ⟨g1, g2⟩ | ⟨i', g1, g2, g3, g4, g5⟩⟩
  · omega
  · exfalso
    have hall : ∀ b ∈ bs, decide (b.st = 1) = true := by
      intro b hb
      obtain ⟨j, hj, e⟩ := List.mem_iff_getElem.1 hb
      obtain ⟨i, hi, ei⟩ := place_onto (home := homeN lab bs.length) hj
      have := g2 i (by omega) (by omega) h
      rw [ei, List.getD_eq_getElem?_getD, List.getElem?_eq_getElem hj, e] at this
      simpa using this
    have := List.countP_eq_length.2 hall
    unfold usedN at hu
    omega
  · exact ⟨_, place_lt hn, g3, g4⟩
end Go.Proofs.YtbigcojlpcchiaaGreat.Sy.Bk

namespace Go.Proofs.YtbigcojlpcchiaaGreat.Sy.Bk
open Go Go.RowKit
set_option linter.unusedVariables false
set_option linter.unusedSimpArgs false
abbrev atB (bs : List Bkt) (j : Nat) : Bkt := bs.getD j .free
/-- Every label is found: no Free one is ahead of it on its way. -/
def pathOk (bs : List Bkt) : Prop := ∀ j, j < bs.length → (atB bs j).st = 1 → ∃ i, i < bs.length ∧ placeN bs.length (homeN (atB bs j).lab bs.length) i = j ∧ ∀ i', i' < i → (atB bs (placeN bs.length (homeN (atB bs j).lab bs.length) i')).st ≠ 0
def distinct (bs : List Bkt) : Prop := ∀ j k, j < bs.length → k < bs.length → (atB bs j).st = 1 → (atB bs k).st = 1 → (atB bs j).lab = (atB bs k).lab → j = k
structure RightI (s : Sto) : Prop where
  size : sizeB s.bs.length = true
  may : ∀ j, j < s.bs.length → mayB (atB s.bs j) = true
  path : pathOk s.bs
  dist : distinct s.bs
  many : (usedN s.bs : Int) = s.many
  gone : (goneN s.bs : Int) = s.gone
  load : 4 * (s.many + s.gone) ≤ 3 * s.bs.length
theorem size_pos {n : Nat} (h : sizeB n = true) : 0 < n := by
  simp [sizeB] at h
  omega
theorem find_of {bs : List Bkt} (hp : pathOk bs) (hd : distinct bs) {j : Nat} (hj : j < bs.length) (hu : (atB bs j).st = 1) : (findB bs (atB bs j).lab).1 = j := by
  have hn : 0 < bs.length := by omega
  rcases find_hit (lab := (atB bs j).lab) hn with h | ⟨k, h1, h2, h3, h4⟩
  · exfalso
    obtain ⟨i, g1, g2, g3⟩ := hp j hj hu
    have g2' : (atB bs (placeN bs.length (homeN (atB bs j).lab bs.length) i)) = atB bs j := by rw [g2]
    obtain ⟨i', k1, k2, k3⟩ := scan_miss hn bs.length 0 (-1) h i (by omega) (by omega) (by show (atB bs _).st = 1; rw [g2']; exact hu) (by show (atB bs _).lab = _; rw [g2'])
    exact g3 i' k2 k3
  · rw [h2, hd j k hj h1 hu h3 h4.symm]
theorem path_of {bs : List Bkt} (h : ∀ j, j < bs.length → (atB bs j).st = 1 → (findB bs (atB bs j).lab).1 = j) : pathOk bs ∧ distinct bs := by
  constructor
  · intro j hj hu
    have hf := h j hj hu
    rcases scan_hit (bs := bs) (lab := (atB bs j).lab) (home := homeN (atB bs j).lab bs.length) (by omega) bs.length 0 (-1) with g | ⟨i, g1, g2, g3, g4, g5, g6⟩
    · unfold findB at hf; omega
    · refine ⟨i, by omega, ?_, fun i' hi' => (g6 i' (by omega) hi').1⟩
      unfold findB at hf
      omega
  · intro j k hj hk h1 h2 e
    have a := h j hj h1
    have b := h k hk h2
    rw [e] at a
    omega
theorem right_iff (s : Sto) : rightB s = true ↔ RightI s := by
  constructor
  · intro h
    simp only [rightB, Bool.and_eq_true, decide_eq_true_eq, List.all_eq_true, List.mem_range] at h
    obtain ⟨h1, h2, ⟨h3, h4⟩, h5⟩ := h
    have hp := path_of (bs := s.bs) (fun j hj hu => by
      have := h2 j hj
      simp only [goodAt, Bool.and_eq_true, Bool.or_eq_true, decide_eq_true_eq] at this
      exact this.2.resolve_left (fun k => k hu))
    refine ⟨h1, fun j hj => ?_, hp.1, hp.2, h3, h4, h5⟩
    have := h2 j hj
    simp only [goodAt, Bool.and_eq_true] at this
    exact this.1
  · rintro ⟨h1, h2, h3, h4, h5, h6, h7⟩
    simp only [rightB, Bool.and_eq_true, decide_eq_true_eq, List.all_eq_true, List.mem_range]
    refine ⟨h1, fun j hj => ?_, ⟨h5, h6⟩, h7⟩
    simp only [goodAt, Bool.and_eq_true, Bool.or_eq_true, decide_eq_true_eq]
    refine ⟨h2 j hj, ?_⟩
    by_cases hu : (atB s.bs j).st = 1
    · exact .inr (find_of h3 h4 hj hu)
    · exact .inl hu
theorem atB_set {bs : List Bkt} {k j : Nat} {b : Bkt} (hk : k < bs.length) : atB (bs.set k b) j = if k = j then b else atB bs j := by
  unfold atB
  rw [List.getD_eq_getElem?_getD, List.getElem?_set, List.getD_eq_getElem?_getD]
  by_cases e : k = j
  · subst e; rw [if_pos rfl, if_pos hk, if_pos rfl]; rfl
  · rw [if_neg e, if_neg e]
theorem path_set {bs : List Bkt} {k : Nat} {b : Bkt} (hp : pathOk bs) (hk : k < bs.length) (h0 : b.st ≠ 0)
    (h1 : b.st = 1 → ∃ i, i < bs.length ∧ placeN bs.length (homeN b.lab bs.length) i = k ∧ ∀ i', i' < i → (atB bs (placeN bs.length (homeN b.lab bs.length) i')).st ≠ 0) : pathOk (bs.set k b) := by
  intro j hj hu
  rw [List.length_set] at hj ⊢
  have hst : ∀ x, (atB bs x).st ≠ 0 → (atB (bs.set k b) x).st ≠ 0 := fun x hx => by
    rw [atB_set hk]; split
    · exact h0
    · exact hx
  rw [atB_set hk] at hu ⊢
  by_cases e : k = j
  · rw [if_pos e] at hu ⊢
    obtain ⟨i, g1, g2, g3⟩ := h1 hu
    exact ⟨i, g1, g2.trans e, fun i' hi' => hst _ (g3 i' hi')⟩
  · rw [if_neg e] at hu ⊢
    obtain ⟨i, g1, g2, g3⟩ := hp j hj hu
    exact ⟨i, g1, g2, fun i' hi' => hst _ (g3 i' hi')⟩
theorem distinct_set {bs : List Bkt} {k : Nat} {b : Bkt} (hd : distinct bs) (hk : k < bs.length) (h : b.st = 1 → ∀ j, j < bs.length → j ≠ k → (atB bs j).st = 1 → (atB bs j).lab ≠ b.lab) : distinct (bs.set k b) := by
  intro i j hi hj h1 h2 h3
  rw [List.length_set] at hi hj
  rw [atB_set hk] at h1 h3
  rw [atB_set hk] at h2 h3
  by_cases e : k = i
  · by_cases e' : k = j
    · omega
    · rw [if_pos e] at h1 h3
      rw [if_neg e'] at h2 h3
      exact absurd h3.symm (h h1 j hj (fun x => e' x.symm) h2)
  · by_cases e' : k = j
    · rw [if_neg e] at h1 h3
      rw [if_pos e'] at h2 h3
      exact absurd h3 (h h2 i hi (fun x => e x.symm) h1)
    · rw [if_neg e] at h1 h3
      rw [if_neg e'] at h2 h3
      exact hd i j hi hj h1 h2 h3
theorem atB_get {bs : List Bkt} {k : Nat} (hk : k < bs.length) : atB bs k = bs[k] := by
  unfold atB
  rw [List.getD_eq_getElem?_getD, List.getElem?_eq_getElem hk]; rfl
theorem usedN_set {bs : List Bkt} {k : Nat} (b : Bkt) (hk : k < bs.length) : (usedN (bs.set k b) : Int) = usedN bs - (if (atB bs k).st = 1 then 1 else 0) + (if b.st = 1 then 1 else 0) := by
  have h := List.countP_set (p := fun b : Bkt => decide (b.st = 1)) (a := b) hk
  have hle : (if (atB bs k).st = 1 then 1 else 0) ≤ usedN bs := by
    split
    · next e =>
      refine List.countP_pos_iff.2 ⟨bs[k], List.getElem_mem hk, ?_⟩
      rw [← atB_get hk]; simpa using e
    · omega
  unfold usedN at hle ⊢
  rw [h, ← atB_get hk]
  by_cases e1 : (atB bs k).st = 1 <;> by_cases e2 : b.st = 1 <;> simp only [e1, e2, if_true, if_false, decide_true, decide_false, Bool.false_eq_true] at hle ⊢ <;> omega
theorem goneN_set {bs : List Bkt} {k : Nat} (b : Bkt) (hk : k < bs.length) : (goneN (bs.set k b) : Int) = goneN bs - (if (atB bs k).st = 2 then 1 else 0) + (if b.st = 2 then 1 else 0) := by
  have h := List.countP_set (p := fun b : Bkt => decide (b.st = 2)) (a := b) hk
  have hle : (if (atB bs k).st = 2 then 1 else 0) ≤ goneN bs := by
    split
    · next e =>
      refine List.countP_pos_iff.2 ⟨bs[k], List.getElem_mem hk, ?_⟩
      rw [← atB_get hk]; simpa using e
    · omega
  unfold goneN at hle ⊢
  rw [h, ← atB_get hk]
  by_cases e1 : (atB bs k).st = 2 <;> by_cases e2 : b.st = 2 <;> simp only [e1, e2, if_true, if_false, decide_true, decide_false, Bool.false_eq_true] at hle ⊢ <;> omega
/-- A label is found just where it is. -/
theorem find_mem {bs : List Bkt} (hp : pathOk bs) (hd : distinct bs) (lab : ByteArray) (hn : 0 < bs.length) : ((findB bs lab).1 = -1 ∧ ∀ j, j < bs.length → (atB bs j).st = 1 → (atB bs j).lab ≠ lab) ∨
    ∃ k : Nat, k < bs.length ∧ (findB bs lab).1 = k ∧ (atB bs k).st = 1 ∧ (atB bs k).lab = lab := by
  rcases find_hit (lab := lab) hn with h | h
  · refine .inl ⟨h, fun j hj hu e => ?_⟩
    have := find_of hp hd hj hu
    rw [e] at this
    omega
  · exact .inr h
theorem room_path {bs : List Bkt} {lab : ByteArray} {k : Nat} (hk : (findB bs lab).2 = k) (hn : 0 < bs.length) : ∃ i, i < bs.length ∧ placeN bs.length (homeN lab bs.length) i = k ∧ ∀ i', i' < i → (atB bs (placeN bs.length (homeN lab bs.length) i')).st ≠ 0 := by
  rcases scan_room (lab := lab) (home := homeN lab bs.length) hn bs.length 0 (-1) (.inl rfl) with ⟨g, _⟩ | ⟨_, ⟨g1, g2⟩ | ⟨i, g1, g2, g3, g4, g5⟩⟩
  · omega
  · unfold findB at hk; omega
  · refine ⟨i, by omega, ?_, fun i' hi' => ?_⟩
    · unfold findB at hk; omega
    · have := g5 i' (by omega) hi'
      show (bs.getD _ .free).st ≠ 0
      omega
/-- A store that is right, but for how full it is. -/
structure Right0 (s : Sto) : Prop where
  size : sizeB s.bs.length = true
  may : ∀ j, j < s.bs.length → mayB (atB s.bs j) = true
  path : pathOk s.bs
  dist : distinct s.bs
  many : (usedN s.bs : Int) = s.many
  gone : (goneN s.bs : Int) = s.gone
theorem RightI.r0 {s : Sto} (h : RightI s) : Right0 s := ⟨h.size, h.may, h.path, h.dist, h.many, h.gone⟩
theorem Right0.full {s : Sto} (h : Right0 s) (hl : 4 * (s.many + s.gone) ≤ 3 * s.bs.length) : RightI s := ⟨h.size, h.may, h.path, h.dist, h.many, h.gone, hl⟩
def setOf (s : Sto) (k : Nat) (lab cell : ByteArray) : Sto := ⟨s.bs.set k ⟨1, lab, cell⟩, s.many + 1, if (atB s.bs k).st = 2 then s.gone - 1 else s.gone⟩
theorem mayB_used {lab cell : ByteArray} (hl : lab.size = 16) (hc : cell.size = 40) : mayB ⟨1, lab, cell⟩ = true := by simp [mayB, hl, hc]
theorem set_right {s : Sto} {lab cell : ByteArray} {k : Nat} (h : Right0 s) (hl : lab.size = 16) (hc : cell.size = 40) (hnew : ∀ j, j < s.bs.length → (atB s.bs j).st = 1 → (atB s.bs j).lab ≠ lab) (hk : k < s.bs.length) (hr : (findB s.bs lab).2 = k) (hu : (atB s.bs k).st ≠ 1) : Right0 (setOf s k lab cell) := by
  have hn : 0 < s.bs.length := by omega
  refine ⟨?_, fun j hj => ?_, ?_, ?_, ?_, ?_⟩
  · simp only [setOf, List.length_set]; exact h.size
  · simp only [setOf, List.length_set] at hj
    simp only [setOf]
    rw [atB_set hk]
    split
    · exact mayB_used hl hc
    · exact h.may j hj
  · exact path_set h.path hk (by simp) (fun _ => room_path hr hn)
  · exact distinct_set h.dist hk (fun _ j hj _ hu' => hnew j hj hu')
  · simp only [setOf]
    rw [usedN_set _ hk, if_neg hu, if_pos rfl, h.many]; omega
  · simp only [setOf]
    rw [goneN_set _ hk, h.gone]
    simp only [show ((1 : Int) = 2) = False by simp]
    split <;> simp
theorem del_right {s : Sto} {k : Nat} (h : RightI s) (hk : k < s.bs.length) (hu : (atB s.bs k).st = 1) : RightI ⟨s.bs.set k ⟨2, ⟨#[]⟩, ⟨#[]⟩⟩, s.many - 1, s.gone + 1⟩ := by
  refine ⟨?_, fun j hj => ?_, ?_, ?_, ?_, ?_, ?_⟩
  · simp only [List.length_set]; exact h.size
  · simp only [List.length_set] at hj
    simp only
    rw [atB_set hk]
    split
    · simp [mayB]
    · exact h.may j hj
  · exact path_set h.path hk (by simp) (fun e => by simp at e)
  · exact distinct_set h.dist hk (fun e => by simp at e)
  · simp only
    rw [usedN_set _ hk, if_pos hu, if_neg (by simp), h.many]; omega
  · simp only
    rw [goneN_set _ hk, if_neg (by omega), if_pos rfl, h.gone]; omega
  · simp only [List.length_set]
    have := h.load
    omega
theorem over_right {s : Sto} {k : Nat} {cell : ByteArray} (h : RightI s) (hc : cell.size = 40) (hk : k < s.bs.length) (hu : (atB s.bs k).st = 1) : RightI ⟨s.bs.set k { atB s.bs k with cell := cell }, s.many, s.gone⟩ := by
  have hm := h.may k hk
  refine ⟨?_, fun j hj => ?_, ?_, ?_, ?_, ?_, ?_⟩
  · simp only [List.length_set]; exact h.size
  · simp only [List.length_set] at hj
    simp only
    rw [atB_set hk]
    split
    · unfold mayB at hm ⊢
      rw [if_pos hu] at hm
      rw [if_pos (show ({ atB s.bs k with cell := cell } : Bkt).st = 1 from hu)]
      simp only [Bool.and_eq_true, decide_eq_true_eq] at hm ⊢
      exact ⟨hm.1, by omega⟩
    · exact h.may j hj
  · exact path_set h.path hk (by simp only; omega) (fun e => h.path k hk hu)
  · exact distinct_set h.dist hk (fun _ j hj hne hu' e => hne (h.dist j k hj hk hu' hu e))
  · simp only
    have := h.many
    rw [usedN_set _ hk]
    simp only [hu, if_true]; omega
  · simp only
    have := h.gone
    rw [goneN_set _ hk]
    simp only [hu, show ((1 : Int) = 2) = False by simp, if_false]; omega
  · simp only [List.length_set]; exact h.load
end Go.Proofs.YtbigcojlpcchiaaGreat.Sy.Bk

namespace Go.Proofs.YtbigcojlpcchiaaGreat.Sy.Bk
open Go Go.RowKit
set_option linter.unusedVariables false
set_option linter.unusedSimpArgs false
/-- A cell is there under a label. -/
def inB (bs : List Bkt) (lab cell : ByteArray) : Prop := ∃ j, j < bs.length ∧ (atB bs j).st = 1 ∧ (atB bs j).lab = lab ∧ (atB bs j).cell = cell
theorem inB_take {bs : List Bkt} {i : Nat} (hi : i < bs.length) (lab cell : ByteArray) : inB (bs.take (i + 1)) lab cell ↔ inB (bs.take i) lab cell ∨ ((atB bs i).st = 1 ∧ (atB bs i).lab = lab ∧ (atB bs i).cell = cell) := by
  have hat : ∀ m j, j < m → atB (bs.take m) j = atB bs j := fun m j hj => by
    unfold atB
    rw [List.getD_eq_getElem?_getD, List.getD_eq_getElem?_getD, List.getElem?_take, if_pos hj]
  constructor
  · rintro ⟨j, h1, h2⟩
    rw [List.length_take] at h1
    rw [hat _ _ (by omega)] at h2
    by_cases e : j = i
    · subst e; exact .inr h2
    · exact .inl ⟨j, by rw [List.length_take]; omega, by rw [hat _ _ (by omega)]; exact h2⟩
  · rintro (⟨j, h1, h2⟩ | h)
    · rw [List.length_take] at h1
      rw [hat _ _ (by omega)] at h2
      exact ⟨j, by rw [List.length_take]; omega, by rw [hat _ _ (by omega)]; exact h2⟩
    · exact ⟨i, by rw [List.length_take]; omega, by rw [hat _ _ (by omega)]; exact h⟩
theorem setS_of {s : Sto} {lab cell : ByteArray} {k : Nat} (hr : (findB s.bs lab).2 = k) : setS s lab cell = setOf s k lab cell := by
  unfold setS setOf
  rw [hr]
  rfl
theorem in_setOf {s : Sto} {k : Nat} {lab cell : ByteArray} (hk : k < s.bs.length) (hu : (atB s.bs k).st ≠ 1) (l c : ByteArray) : inB (setOf s k lab cell).bs l c ↔ (l = lab ∧ c = cell) ∨ inB s.bs l c := by
  unfold inB
  simp only [setOf, List.length_set]
  constructor
  · rintro ⟨j, h1, h2⟩
    rw [atB_set hk] at h2
    by_cases e : k = j
    · rw [if_pos e] at h2; exact .inl ⟨h2.2.1.symm, h2.2.2.symm⟩
    · rw [if_neg e] at h2; exact .inr ⟨j, h1, h2⟩
  · rintro (⟨rfl, rfl⟩ | ⟨j, h1, h2⟩)
    · exact ⟨k, hk, by rw [atB_set hk, if_pos rfl]; exact ⟨rfl, rfl, rfl⟩⟩
    · refine ⟨j, h1, ?_⟩
      rw [atB_set hk, if_neg (fun e => by subst e; exact hu h2.1)]
      exact h2
/-- A label that is not there can be set where not all is Used. -/
theorem set_ok {s : Sto} {lab cell : ByteArray} (h : Right0 s) (hl : lab.size = 16) (hc : cell.size = 40) (hnew : ∀ c, ¬ inB s.bs lab c) (hu : usedN s.bs < s.bs.length) :
    ∃ k : Nat, k < s.bs.length ∧ (findB s.bs lab).2 = k ∧ (atB s.bs k).st ≠ 1 ∧ Right0 (setS s lab cell) ∧ (setS s lab cell).bs.length = s.bs.length ∧ (setS s lab cell).many = s.many + 1 ∧ (∀ l c, inB (setS s lab cell).bs l c ↔ (l = lab ∧ c = cell) ∨ inB s.bs l c) ∧ (setS s lab cell).gone ≤ s.gone := by
  have hn : 0 < s.bs.length := by omega
  have hno : ∀ j, j < s.bs.length → (atB s.bs j).st = 1 → (atB s.bs j).lab ≠ lab := fun j hj hu' e => hnew _ ⟨j, hj, hu', e, rfl⟩
  have hm : (findB s.bs lab).1 = -1 := by
    rcases find_mem h.path h.dist lab hn with ⟨g, _⟩ | ⟨k, g1, g2, g3, g4⟩
    · exact g
    · exact absurd g4 (hno k g1 g3)
  obtain ⟨k, h1, h2, h3⟩ := find_room hu hm
  refine ⟨k, h1, h2, h3, ?_⟩
  rw [setS_of h2]
  refine ⟨set_right h hl hc hno h1 h2 h3, by simp [setOf], rfl, in_setOf h1 h3, ?_⟩
  simp only [setOf]
  split <;> omega
def refillS (t : Sto) (l : List Bkt) : Sto := l.foldl (fun t b => if b.st = 1 then setS t b.lab b.cell else t) t
theorem refill_succ {t : Sto} {bs : List Bkt} {i : Nat} (hi : i < bs.length) : refillS t (bs.take (i + 1)) = if (atB bs i).st = 1 then setS (refillS t (bs.take i)) (atB bs i).lab (atB bs i).cell else refillS t (bs.take i) := by
  rw [List.take_succ_eq_append_getElem hi, refillS, List.foldl_append, ← atB_get hi]
  rfl
abbrev freshS (n : Nat) : Sto := ⟨List.replicate n .free, 0, 0⟩
theorem atB_replicate (n j : Nat) : atB (List.replicate n .free) j = .free := by
  unfold atB
  rw [List.getD_eq_getElem?_getD, List.getElem?_replicate]
  split <;> rfl
theorem fresh_right {n : Nat} (h : sizeB n = true) : RightI (freshS n) := by
  have hc : ∀ p : Bkt → Bool, p .free = false → (List.replicate n Bkt.free).countP p = 0 := fun p hp => by
    rw [List.countP_eq_zero]
    intro a ha
    rw [List.eq_of_mem_replicate ha, hp]; simp
  refine ⟨by simpa using h, fun j _ => ?_, fun j _ hu => ?_, fun j k _ _ hu => ?_, ?_, ?_, by simp; omega⟩
  · simp only [atB_replicate]; rfl
  · simp only [atB_replicate] at hu; simp at hu
  · simp only [atB_replicate] at hu; simp at hu
  · unfold usedN; rw [hc _ (by simp)]; rfl
  · unfold goneN; rw [hc _ (by simp)]; rfl
theorem fresh_in (n : Nat) (l c : ByteArray) : ¬ inB (List.replicate n Bkt.free) l c := by
  rintro ⟨j, _, h, _⟩
  simp only [atB_replicate] at h; simp at h
/-- What filling anew comes to. -/
theorem refill_ok {s : Sto} (h : RightI s) {n : Nat} (hn : sizeB n = true) (hu : usedN s.bs ≤ n) : ∀ i, i ≤ s.bs.length → Right0 (refillS (freshS n) (s.bs.take i)) ∧ (refillS (freshS n) (s.bs.take i)).bs.length = n ∧
    (refillS (freshS n) (s.bs.take i)).many = usedN (s.bs.take i) ∧ (refillS (freshS n) (s.bs.take i)).gone = 0 ∧ (∀ l c, inB (refillS (freshS n) (s.bs.take i)).bs l c ↔ inB (s.bs.take i) l c) ∧
    (∀ j, j < i → (atB s.bs j).st = 1 → ∃ k : Nat, k < n ∧ (findB (refillS (freshS n) (s.bs.take j)).bs (atB s.bs j).lab).2 = k)
  | 0, _ => by
    have hr := fresh_right hn
    refine ⟨hr.r0, by simp [refillS], by simp [refillS, usedN], rfl, fun l c => ?_, fun j hj => by omega⟩
    simp only [List.take_zero, refillS, List.foldl_nil]
    exact ⟨fun g => absurd g (fresh_in n l c), fun ⟨j, g, _⟩ => by simp at g⟩
  | i + 1, hi => by
    obtain ⟨h1, h2, h3, h4, h5, h6⟩ := refill_ok h hn hu i (by omega)
    have hi' : i < s.bs.length := by omega
    have hut := usedN_take hi' rfl
    rw [← atB_get hi'] at hut
    have hle : usedN (s.bs.take (i + 1)) ≤ usedN s.bs := (List.take_sublist _ _).countP_le
    by_cases c : (atB s.bs i).st = 1
    · rw [if_pos c] at hut
      have hmay := h.may i hi'
      unfold mayB at hmay
      rw [if_pos c] at hmay
      simp only [Bool.and_eq_true, decide_eq_true_eq] at hmay
      have hnew : ∀ c', ¬ inB (refillS (freshS n) (s.bs.take i)).bs (atB s.bs i).lab c' := by
        intro c' hin
        obtain ⟨j, g1, g2, g3, g4⟩ := (h5 _ _).1 hin
        rw [List.length_take] at g1
        have e : atB (s.bs.take i) j = atB s.bs j := by
          unfold atB
          rw [List.getD_eq_getElem?_getD, List.getD_eq_getElem?_getD, List.getElem?_take, if_pos (by omega)]
        rw [e] at g2 g3
        have := h.dist j i (by omega) hi' g2 c g3
        omega
      have hlt : usedN (refillS (freshS n) (s.bs.take i)).bs < (refillS (freshS n) (s.bs.take i)).bs.length := by
        have := h1.many
        rw [h2]
        omega
      obtain ⟨k, g1, g2, g3, g4, g5, g6, g7, g8⟩ := set_ok (cell := (atB s.bs i).cell) h1 (by omega) (by omega) hnew hlt
      rw [refill_succ hi', if_pos c]
      refine ⟨g4, by rw [g5, h2], by rw [g6, h3, hut]; rfl, ?_, fun l c' => ?_, fun j hj hu' => ?_⟩
      · have := g4.gone; omega
      · rw [g7, h5, inB_take hi']
        constructor
        · rintro (⟨rfl, rfl⟩ | g)
          · exact .inr ⟨c, rfl, rfl⟩
          · exact .inl g
        · rintro (g | ⟨_, rfl, rfl⟩)
          · exact .inr g
          · exact .inl ⟨rfl, rfl⟩
      · by_cases e : j = i
        · subst e; exact ⟨k, by omega, g2⟩
        · exact h6 j (by omega) hu'
    · rw [if_neg c] at hut
      rw [refill_succ hi', if_neg c]
      refine ⟨h1, h2, by rw [h3, hut]; rfl, h4, fun l c' => ?_, fun j hj hu' => ?_⟩
      · rw [h5, inB_take hi']
        exact ⟨.inl, fun g => g.resolve_right (fun g => c g.1)⟩
      · by_cases e : j = i
        · subst e; exact absurd hu' c
        · exact h6 j (by omega) hu'
/-- The size of a store that is filled anew. -/
def wideN (s : Sto) : Nat := if 2 * s.many ≥ s.bs.length then 2 * s.bs.length else s.bs.length
def roomy (s : Sto) : Bool := decide (4 * (s.many + s.gone + 1) ≤ 3 * s.bs.length)
def wideS (s : Sto) : Sto := refillS (freshS (wideN s)) s.bs
/-- A store with room for one more. -/
def moreS (s : Sto) : Sto := if roomy s then s else wideS s
theorem right_small {s : Sto} (h : RightI s) : 8 ≤ s.bs.length ∧ s.bs.length ≤ 4096 ∧ 0 ≤ s.many ∧ s.many ≤ 4096 ∧ 0 ≤ s.gone ∧ s.gone ≤ 4096 := by
  have h1 := size_le h.size
  have h2 := h.many
  have h3 := h.gone
  have h4 := h.load
  omega
theorem wide_le {s : Sto} (h : RightI s) : usedN s.bs ≤ wideN s := by
  have := usedN_le s.bs
  unfold wideN
  split <;> omega
theorem wide_ok {s : Sto} (h : RightI s) (hn : sizeB (wideN s) = true) : Right0 (wideS s) ∧ (wideS s).bs.length = wideN s ∧ (wideS s).many = s.many ∧ (wideS s).gone = 0 ∧ ∀ l c, inB (wideS s).bs l c ↔ inB s.bs l c := by
  obtain ⟨h1, h2, h3, h4, h5, _⟩ := refill_ok h hn (wide_le h) s.bs.length (Nat.le_refl _)
  rw [List.take_length] at h1 h2 h3 h4 h5
  exact ⟨h1, h2, (show (wideS s).many = (usedN s.bs : Int) from h3).trans h.many, h4, h5⟩
theorem more_ok {s : Sto} (h : RightI s) (hn : roomy s = true ∨ sizeB (wideN s) = true) : Right0 (moreS s) ∧ (moreS s).many = s.many ∧ (∀ l c, inB (moreS s).bs l c ↔ inB s.bs l c) ∧ 4 * ((moreS s).many + (moreS s).gone + 1) ≤ 3 * (moreS s).bs.length ∧ (moreS s).bs.length = (if roomy s then s.bs.length else wideN s) := by
  unfold moreS
  by_cases c : roomy s = true
  · rw [if_pos c, if_pos c]
    exact ⟨h.r0, rfl, fun _ _ => Iff.rfl, by simpa [roomy] using c, rfl⟩
  · rw [if_neg c, if_neg c]
    have hw := hn.resolve_left c
    obtain ⟨h1, h2, h3, h4, h5⟩ := wide_ok h hw
    refine ⟨h1, h3, h5, ?_, h2⟩
    have := right_small h
    have := h.load
    rw [h2, h3, h4]
    unfold wideN
    split <;> omega
/-- Put, as the document says. -/
def putS (s : Sto) (lab cell : ByteArray) : Sto × Int :=
  if rightB s && decide ((lab.size : Int) = 16) && decide ((cell.size : Int) = 40) then
    if (findB s.bs lab).1 = -1 then
      if roomy s || sizeB (wideN s) then (setS (moreS s) lab cell, 0) else (s, 20)
    else (⟨s.bs.set (findB s.bs lab).1.toNat { atB s.bs (findB s.bs lab).1.toNat with cell := cell }, s.many, s.gone⟩, 0)
  else (s, 1)
def delS (s : Sto) (lab : ByteArray) : Sto × Bool × Int :=
  if rightB s then
    if (findB s.bs lab).1 = -1 then (s, false, 0)
    else (⟨s.bs.set (findB s.bs lab).1.toNat ⟨2, ⟨#[]⟩, ⟨#[]⟩⟩, s.many - 1, s.gone + 1⟩, true, 0)
  else (s, false, 1)
def getS (s : Sto) (lab : ByteArray) : ByteArray × Bool :=
  if rightB s then if (findB s.bs lab).1 = -1 then (⟨#[]⟩, false) else ((atB s.bs (findB s.bs lab).1.toNat).cell, true) else (⟨#[]⟩, false)
end Go.Proofs.YtbigcojlpcchiaaGreat.Sy.Bk

namespace Go.Proofs.YtbigcojlpcchiaaGreat.Sy.Bk
open Go Go.RowKit
set_option linter.unusedVariables false
set_option linter.unusedSimpArgs false
set_option maxRecDepth 10000
set_option maxHeartbeats 4000000
@[simp] theorem take_len_set {α : Type} (l : List α) (k : Nat) (b : α) : (l.set k b).take l.length = l.set k b := List.take_of_length_le (by simp)
theorem get_call (s : Sto) (lab : ByteArray) (hl : s.bs.length < 1000000) : CallOk Tryz.prog 122 [stoP s, .val (.string lab)] [] (.tup [.val (.string (getS s lab).1), .val (.bool (getS s lab).2)]) [] := by
  refine .of_exec Tryz.func122 rfl (enters_122) rfl rfl (Nat.le_of_ble_eq_true rfl) (fun n _ => rfl) ?_
  simp
  refine .plain (right_call s (by omega)) (by simp) (by simp) ?_
  by_cases h : rightB s = true
  · simp [h]
    refine .plain (find_call s lab (by omega)) (by simp) (by simp) ?_
    have hp := (right_iff s).1 h
    rcases find_mem hp.path hp.dist lab (size_pos hp.size) with ⟨g, _⟩ | ⟨k, g1, g2, g3, g4⟩
    · simp [g]
      exact .plain (by simp) (by simp [getS, h, g])
    · have g1' : (k : Int) < s.bs.length := by omega
      have g5 : (k : Int) ≠ -1 := by omega
      simp [g2, g1, g1', g5, rowB]
      exact .plain (by simp) (by simp [getS, h, g2, g5, g1])
  · simp [h]
    exact .plain (by simp) (by simp [getS, h])
theorem refget_call (s : Sto) (lab : ByteArray) (hl : s.bs.length < 1000000) : CallOk Tryz.prog 40 [stoP s, .val (.string lab)] [] (.tup [.val (.string (getS s lab).1), .val (.bool (getS s lab).2)]) [] := by
  refine .of_exec Tryz.func40 rfl (enters_40) rfl rfl (Nat.le_of_ble_eq_true rfl) (fun n _ => rfl) ?_
  simp
  refine .plain (refright_call s (by omega)) (by simp) (by simp) ?_
  by_cases h : rightB s = true
  · simp [h]
    refine .plain (reffind_call s lab (by omega)) (by simp) (by simp) ?_
    have hp := (right_iff s).1 h
    rcases find_mem hp.path hp.dist lab (size_pos hp.size) with ⟨g, _⟩ | ⟨k, g1, g2, g3, g4⟩
    · simp [g]
      exact .plain (by simp) (by simp [getS, h, g])
    · have g1' : (k : Int) < s.bs.length := by omega
      have g5 : (k : Int) ≠ -1 := by omega
      have g6 : ¬ (k : Int) < 0 := by omega
      simp [g2, g1, g1', g5, g6, rowB]
      exact .plain (by simp) (by simp [getS, h, g2, g5, g1])
  · simp [h]
    exact .plain (by simp) (by simp [getS, h])
theorem del_call (s : Sto) (lab : ByteArray) (hl : s.bs.length < 1000000) : CallOk Tryz.prog 95 [stoP s, .val (.string lab)] [] (.tup [stoP (delS s lab).1, .val (.bool (delS s lab).2.1), eI (delS s lab).2.2]) [] := by
  refine .of_exec Tryz.func95 rfl (enters_95) rfl rfl (Nat.le_of_ble_eq_true rfl) (fun n _ => rfl) ?_
  simp
  refine .plain (right_call s (by omega)) (by simp) (by simp) ?_
  by_cases h : rightB s = true
  · have hp := (right_iff s).1 h
    have hs := right_small hp
    have hne : s.bs ≠ [] := by intro e; rw [e] at hs; simp at hs
    have w1 : IntKind.i64.wrap (s.many - 1) = s.many - 1 := w64 (by omega) (by omega)
    have w2 : IntKind.i64.wrap (s.gone + 1) = s.gone + 1 := w64 (by omega) (by omega)
    simp [h]
    refine callK.own [] [] (own_own hne hl) (by simp) (by simp) (by simp) (by simp) (by simp) (by simp) (by simp) (by simp) (by simp) (by simp) ?_
    simp

    refine .lent [128] (find_call s lab (by omega)) (by simp) (by simp) (by simp) (by simp) (by simp) (by simp) ?_
    rcases find_mem hp.path hp.dist lab (size_pos hp.size) with ⟨g, _⟩ | ⟨k, g1, g2, g3, g4⟩
    · simp [g]
      exact .frz [128] [4, 5, 6] (by simp) (by simp) (by simp) (by simp) (by simp [delS, h, g])
    · have g1' : (k : Int) < s.bs.length := by omega
      have g5 : (k : Int) ≠ -1 := by omega
      simp [g2, g1, g1', g5, rowB, w1, w2]
      exact .frz [128] [4, 5, 6] (by simp) (by simp) (by simp) (by simp) (by simp [delS, h, g2, g5, g1])
  · simp [h]
    refine .plain (own_call hl) (by simp) (by simp) ?_
    simp
    exact .plain (by simp) (by simp [delS, h])
theorem refdel_call (s : Sto) (lab : ByteArray) (hl : s.bs.length < 1000000) : CallOk Tryz.prog 41 [stoP s, .val (.string lab)] [] (.tup [stoP (delS s lab).1, .val (.bool (delS s lab).2.1), eI (delS s lab).2.2]) [] := by
  refine .of_exec Tryz.func41 rfl (enters_41) rfl rfl (Nat.le_of_ble_eq_true rfl) (fun n _ => rfl) ?_
  simp
  refine callK.own [] [] (refown_own hl) (by simp) (by simp) (by simp) (by simp) (by simp) (by simp) (by simp) (by simp) (by simp) (by simp) ?_
  simp
  refine .plain (refright_call s (by omega)) (by simp) (by simp) ?_
  by_cases h : rightB s = true
  · have hp := (right_iff s).1 h
    have hs := right_small hp
    have w1 : IntKind.i64.wrap (s.many - 1) = s.many - 1 := w64 (by omega) (by omega)
    have w2 : IntKind.i64.wrap (s.gone + 1) = s.gone + 1 := w64 (by omega) (by omega)
    simp [h]
    refine .plain (reffind_call s lab (by omega)) (by simp) (by simp) ?_
    rcases find_mem hp.path hp.dist lab (size_pos hp.size) with ⟨g, _⟩ | ⟨k, g1, g2, g3, g4⟩
    · simp [g]
      exact .frz [104] [4, 5, 6] (by simp) (by simp) (by simp) (by simp) (by simp [delS, h, g])
    · have g1' : (k : Int) < s.bs.length := by omega
      have g5 : (k : Int) ≠ -1 := by omega
      have g6 : ¬ (k : Int) < 0 := by omega
      simp [g2, g1, g1', g5, g6, rowB, w1, w2]
      exact .frz [104] [4, 5, 6] (by simp) (by simp) (by simp) (by simp) (by simp [delS, h, g2, g5, g1])
  · simp [h]

    exact .frz [104] [4, 5, 6] (by simp) (by simp) (by simp) (by simp) (by simp [delS, h])
end Go.Proofs.YtbigcojlpcchiaaGreat.Sy.Bk

namespace Go.Proofs.YtbigcojlpcchiaaGreat.Sy.Bk
open Go Go.RowKit
set_option linter.unusedVariables false
set_option linter.unusedSimpArgs false
set_option maxRecDepth 10000
set_option maxHeartbeats 4000000
@[simp] theorem setS_len (s : Sto) (lab cell : ByteArray) : (setS s lab cell).bs.length = s.bs.length := by simp [setS]
@[simp] theorem rowsB_eq_nil (l : List Bkt) : rowsB l = [] ↔ l = [] := by simp [rowsB]
abbrev partS (s : Sto) (i : Nat) : Sto := refillS (freshS (wideN s)) (s.bs.take i)
def wide_inv (s : Sto) (m : Nat) (st : St) : Prop := ∃ i : Nat, m = s.bs.length - i ∧ i ≤ s.bs.length ∧
  st = ⟨57, [(42, .val (.int .i64 i)), (41, .val (.int .i64 s.bs.length)), (40, .rd 3 (rowsB s.bs)), (5, .ref 80 3 0 0), (2, .ref 72 3 0 0)],
    [(72, ⟨31, 3, [[.val (.slice none 0 0), .val (.int .i64 0), .val (.int .i64 0)]], .cells⟩), (80, ⟨31, 3, [[.sl 88 3 0 (partS s i).bs.length, .val (.int .i64 (partS s i).many), .val (.int .i64 (partS s i).gone)]], .cells⟩), (88, ⟨95, 3, rowsB (partS s i).bs, .cells⟩)], 96⟩
theorem wider_own {s : Sto} (h : RightI s) (hn : roomy s = true ∨ sizeB (wideN s) = true) : CallOk Tryz.prog 124 [stoP s] [] (.tup [ownP (moreS s).bs.length (moreS s).many (moreS s).gone, .val (.bool true)]) [(0, ⟨95, 3, rowsB (moreS s).bs, .cells⟩)] := by
  have hs := right_small h
  have w1 : IntKind.i64.wrap (s.many + s.gone) = s.many + s.gone := w64 (by omega) (by omega)
  have w2 : IntKind.i64.wrap (s.many + s.gone + 1) = s.many + s.gone + 1 := w64 (by omega) (by omega)
  have w3 : IntKind.i64.wrap (4 * (s.many + s.gone + 1)) = 4 * (s.many + s.gone + 1) := w64 (by omega) (by omega)
  have w4 : IntKind.i64.wrap (3 * (s.bs.length : Int)) = 3 * s.bs.length := w64 (by omega) (by omega)
  have w5 : IntKind.i64.wrap (2 * s.many) = 2 * s.many := w64 (by omega) (by omega)
  refine .of_exec Tryz.func124 rfl (enters_124) rfl rfl (Nat.le_of_ble_eq_true rfl) (fun n _ => rfl) ?_
  by_cases c : roomy s = true
  · have c' : 4 * (s.many + s.gone + 1) ≤ 3 * (s.bs.length : Int) := by simpa [roomy] using c
    have hne : s.bs ≠ [] := by intro e; rw [e] at hs; simp at hs
    simp [w1, w2, w3, w4, c']
    refine callK.own [] [] (own_own hne (by omega)) (by simp) (by simp) (by simp) (by simp) (by simp) (by simp) (by simp) (by simp) (by simp) (by simp) ?_
    simp
    exact .own [(208, 0)] (by simp) (by simp) (by simp [moreS, c]) (by simp) (by simp [moreS, c])
  · have c' : ¬ 4 * (s.many + s.gone + 1) ≤ 3 * (s.bs.length : Int) := by simpa [roomy] using c
    have hn' := hn.resolve_left c
    by_cases c2 : 2 * s.many ≥ s.bs.length
    · have e : wideN s = 2 * s.bs.length := if_pos c2
      have w6 : IntKind.i64.wrap ((s.bs.length : Int) * 2) = wideN s := by rw [w64 (by omega) (by omega)]; omega
      simp [w1, w2, w3, w4, w5, w6, c', c2]
      refine callK.own [] [] (new_own hn') (by simp) (by simp) (by simp) (by simp) (by simp) (by simp) (by simp) (by simp) (by simp) (by simp) ?_
      simp
      refine WPg.loopW (wide_inv s) ⟨s.bs.length, _, ?_, ⟨0, by simp, by simp, rfl⟩⟩ ?_
      · exact Wk.rn [(72, 72), (304, 80), (272, 88)] rfl (by simp) (by simp) (by simp [refillS, e])
      rintro m st ⟨i, g1, g2, rfl⟩
      by_cases hi : i < s.bs.length
      · have hi' : (i : Int) < s.bs.length := by omega
        have hw : IntKind.i64.wrap ((i : Int) + 1) = ((i + 1 : Nat) : Int) := by rw [w64 (by omega) (by omega)]; omega
        obtain ⟨f1, f2, f3, f4, f5, f6⟩ := refill_ok h hn' (wide_le h) (i + 1) (by omega)
        obtain ⟨k1, k2, k3, k4, _⟩ := refill_ok h hn' (wide_le h) i (by omega)
        have hle := usedN_le (s.bs.take i)
        rw [List.length_take] at hle
        have hsz := size_le hn'
        have k2' : (partS s i).bs.length = wideN s := k2
        have k3' : (partS s i).many = usedN (s.bs.take i) := k3
        have k4' : (partS s i).gone = 0 := k4
        have kne : (partS s i).bs ≠ [] := by intro e'; rw [e'] at k2'; simp at k2'; omega
        have hb := atB_get hi
        by_cases c1 : (atB s.bs i).st = 1
        · obtain ⟨k, r1, r2⟩ := f6 i (by omega) c1
          have r3 := refill_succ (t := freshS (wideN s)) hi
          rw [if_pos c1] at r3
          rw [hb] at c1 r2 r3
          simp [hi, hi', rowB, c1]
          refine callK.own [] [(88, 0)] (set_own (s := partS s i) (k := k) (cell := s.bs[i].cell) (by omega) ⟨by omega, by omega⟩ ⟨by omega, by omega⟩ (by omega) r2) (by simp) (by simp) (by simp) (by simp) (by simp) (by simp [kne]) (by simp) (by simp) (by simp) (by simp) ?_
          simp
          refine ⟨s.bs.length - (i + 1), by omega, _, ?_, ⟨i + 1, rfl, by omega, rfl⟩⟩
          rw [hw]
          exact Wk.rn [(72, 72), (80, 80), (88, 88)] rfl (by simp) (by simp) (by simp [r3])
        · have r3 := refill_succ (t := freshS (wideN s)) hi
          rw [if_neg c1] at r3
          rw [hb] at c1
          simp [hi, hi', rowB, c1]
          refine ⟨s.bs.length - (i + 1), by omega, _, ?_, ⟨i + 1, rfl, by omega, rfl⟩⟩
          rw [hw]
          exact Wk.rn [(72, 72), (80, 80), (88, 88)] rfl (by simp) (by simp) (by simp [r3])
      · obtain rfl : i = s.bs.length := by omega
        have pa : partS s s.bs.length = wideS s := by unfold partS wideS; rw [List.take_length]
        have mw : moreS s = wideS s := by unfold moreS; rw [if_neg c]
        simp
        exact .own [(88, 0)] (by simp) (by simp) (by simp [mw, pa]) (by simp) (by simp [mw, pa])
    · have e : wideN s = s.bs.length := if_neg c2
      have hn2 := hn'
      rw [e] at hn2
      simp [w1, w2, w3, w4, w5, c', c2]
      refine callK.own [] [] (new_own hn2) (by simp) (by simp) (by simp) (by simp) (by simp) (by simp) (by simp) (by simp) (by simp) (by simp) ?_
      simp
      refine WPg.loopW (wide_inv s) ⟨s.bs.length, _, ?_, ⟨0, by simp, by simp, rfl⟩⟩ ?_
      · exact Wk.rn [(72, 72), (280, 80), (248, 88)] rfl (by simp) (by simp) (by simp [refillS, e])
      rintro m st ⟨i, g1, g2, rfl⟩
      by_cases hi : i < s.bs.length
      · have hi' : (i : Int) < s.bs.length := by omega
        have hw : IntKind.i64.wrap ((i : Int) + 1) = ((i + 1 : Nat) : Int) := by rw [w64 (by omega) (by omega)]; omega
        obtain ⟨f1, f2, f3, f4, f5, f6⟩ := refill_ok h hn' (wide_le h) (i + 1) (by omega)
        obtain ⟨k1, k2, k3, k4, _⟩ := refill_ok h hn' (wide_le h) i (by omega)
        have hle := usedN_le (s.bs.take i)
        rw [List.length_take] at hle
        have hsz := size_le hn'
        have k2' : (partS s i).bs.length = wideN s := k2
        have k3' : (partS s i).many = usedN (s.bs.take i) := k3
        have k4' : (partS s i).gone = 0 := k4
        have kne : (partS s i).bs ≠ [] := by intro e'; rw [e'] at k2'; simp at k2'; omega
        have hb := atB_get hi
        by_cases c1 : (atB s.bs i).st = 1
        · obtain ⟨k, r1, r2⟩ := f6 i (by omega) c1
          have r3 := refill_succ (t := freshS (wideN s)) hi
          rw [if_pos c1] at r3
          rw [hb] at c1 r2 r3
          simp [hi, hi', rowB, c1]
          refine callK.own [] [(88, 0)] (set_own (s := partS s i) (k := k) (cell := s.bs[i].cell) (by omega) ⟨by omega, by omega⟩ ⟨by omega, by omega⟩ (by omega) r2) (by simp) (by simp) (by simp) (by simp) (by simp) (by simp [kne]) (by simp) (by simp) (by simp) (by simp) ?_
          simp
          refine ⟨s.bs.length - (i + 1), by omega, _, ?_, ⟨i + 1, rfl, by omega, rfl⟩⟩
          rw [hw]
          exact Wk.rn [(72, 72), (80, 80), (88, 88)] rfl (by simp) (by simp) (by simp [r3])
        · have r3 := refill_succ (t := freshS (wideN s)) hi
          rw [if_neg c1] at r3
          rw [hb] at c1
          simp [hi, hi', rowB, c1]
          refine ⟨s.bs.length - (i + 1), by omega, _, ?_, ⟨i + 1, rfl, by omega, rfl⟩⟩
          rw [hw]
          exact Wk.rn [(72, 72), (80, 80), (88, 88)] rfl (by simp) (by simp) (by simp [r3])
      · obtain rfl : i = s.bs.length := by omega
        have pa : partS s s.bs.length = wideS s := by unfold partS wideS; rw [List.take_length]
        have mw : moreS s = wideS s := by unfold moreS; rw [if_neg c]
        simp
        exact .own [(88, 0)] (by simp) (by simp) (by simp [mw, pa]) (by simp) (by simp [mw, pa])
theorem wider_no {s : Sto} (h : RightI s) (hn : roomy s = false) (hn2 : sizeB (wideN s) = false) : CallOk Tryz.prog 124 [stoP s] [] (.tup [stoP s, .val (.bool false)]) [] := by
  have hs := right_small h
  have w1 : IntKind.i64.wrap (s.many + s.gone) = s.many + s.gone := w64 (by omega) (by omega)
  have w2 : IntKind.i64.wrap (s.many + s.gone + 1) = s.many + s.gone + 1 := w64 (by omega) (by omega)
  have w3 : IntKind.i64.wrap (4 * (s.many + s.gone + 1)) = 4 * (s.many + s.gone + 1) := w64 (by omega) (by omega)
  have w4 : IntKind.i64.wrap (3 * (s.bs.length : Int)) = 3 * s.bs.length := w64 (by omega) (by omega)
  have w5 : IntKind.i64.wrap (2 * s.many) = 2 * s.many := w64 (by omega) (by omega)
  have c' : ¬ 4 * (s.many + s.gone + 1) ≤ 3 * (s.bs.length : Int) := by simpa [roomy] using hn
  have c2 : 2 * s.many ≥ s.bs.length := by
    by_cases c2 : 2 * s.many ≥ s.bs.length
    · exact c2
    · have e : wideN s = s.bs.length := if_neg c2
      rw [e, h.size] at hn2; simp at hn2
  have e : wideN s = 2 * s.bs.length := if_pos c2
  have w6 : IntKind.i64.wrap ((s.bs.length : Int) * 2) = wideN s := by rw [w64 (by omega) (by omega)]; omega
  refine .of_exec Tryz.func124 rfl (enters_124) rfl rfl (Nat.le_of_ble_eq_true rfl) (fun n _ => rfl) ?_
  simp [w1, w2, w3, w4, w5, w6, c', c2]
  refine .plain (new_bad ⟨by omega, by omega⟩ hn2) (by simp) (by simp) ?_
  simp
  exact .plain (by simp) (by simp)
end Go.Proofs.YtbigcojlpcchiaaGreat.Sy.Bk

namespace Go.Proofs.YtbigcojlpcchiaaGreat.Sy.Bk
open Go Go.RowKit
set_option linter.unusedVariables false
set_option linter.unusedSimpArgs false
set_option maxRecDepth 10000
set_option maxHeartbeats 4000000
theorem put_bad {s : Sto} {lab cell : ByteArray} (h : (rightB s && decide ((lab.size : Int) = 16) && decide ((cell.size : Int) = 40)) = false) : putS s lab cell = (s, 1) := by
  unfold putS; rw [h]; rfl
/-- What set needs of the store that it is given. -/
theorem more_set {s : Sto} (h : RightI s) {lab cell : ByteArray} (hl : lab.size = 16) (hc : cell.size = 40) (hn : roomy s = true ∨ sizeB (wideN s) = true) (g : (findB s.bs lab).1 = -1) :
    ∃ k : Nat, k < (moreS s).bs.length ∧ (findB (moreS s).bs lab).2 = k ∧ (moreS s).bs.length ≤ 4096 ∧ small (moreS s).many ∧ small (moreS s).gone ∧ 0 < (moreS s).bs.length ∧ RightI (setS (moreS s) lab cell) ∧
      (∀ l c, inB (setS (moreS s) lab cell).bs l c ↔ (l = lab ∧ c = cell) ∨ inB s.bs l c) ∧ (setS (moreS s) lab cell).many = s.many + 1 := by
  obtain ⟨h1, h2, h3, h4, h5⟩ := more_ok h hn
  have hs := right_small h
  have hsz := size_le h1.size
  have hnew : ∀ c, ¬ inB (moreS s).bs lab c := by
    intro c hin
    obtain ⟨j, j1, j2, j3, j4⟩ := (h3 _ _).1 hin
    have := find_of h.path h.dist j1 j2
    rw [j3] at this
    omega
  have hm := h1.many
  have hg := h1.gone
  have hu : usedN (moreS s).bs < (moreS s).bs.length := by omega
  obtain ⟨k, k1, k2, k3, k4, k5, k6, k7, k8⟩ := set_ok (cell := cell) h1 hl hc hnew hu
  have hle := goneN_le (moreS s).bs
  refine ⟨k, k1, k2, by omega, ⟨by omega, by omega⟩, ⟨by omega, by omega⟩, by omega, k4.full ?_, fun l c => ?_, by omega⟩
  · rw [k5, k6]; omega
  · rw [k7, h3]
theorem put_call (s : Sto) (lab cell : ByteArray) (hl : s.bs.length < 1000000) : CallOk Tryz.prog 94 [stoP s, .val (.string lab), .val (.string cell)] [] (.tup [stoP (putS s lab cell).1, eI (putS s lab cell).2]) [] := by
  refine .of_exec Tryz.func94 rfl (enters_94) rfl rfl (Nat.le_of_ble_eq_true rfl) (fun n _ => rfl) ?_
  simp
  refine .plain (right_call s (by omega)) (by simp) (by simp) ?_
  cases h : (rightB s && decide ((lab.size : Int) = 16) && decide ((cell.size : Int) = 40)) with
  | false =>
    have hb := put_bad h
    have h' : (!rightB s || !decide ((lab.size : Int) = 16) || !decide ((cell.size : Int) = 40)) = true := by
      revert h
      cases rightB s <;> cases decide ((lab.size : Int) = 16) <;> cases decide ((cell.size : Int) = 40) <;> simp
    simp [h']
    refine .plain (own_call hl) (by simp) (by simp) ?_
    simp
    exact .plain (by simp) (by simp [hb])
  | true =>
    have h' := h
    simp only [Bool.and_eq_true, decide_eq_true_eq] at h
    obtain ⟨⟨hr, hlab⟩, hcell⟩ := h
    simp [hr, hlab, hcell]
    refine .plain (find_call s lab (by omega)) (by simp) (by simp) ?_
    have hp := (right_iff s).1 hr
    have hs := right_small hp
    have hne : s.bs ≠ [] := by intro e; rw [e] at hs; simp at hs
    rcases find_mem hp.path hp.dist lab (size_pos hp.size) with ⟨g, _⟩ | ⟨k, g1, g2, g3, g4⟩
    · cases hn : (roomy s || sizeB (wideN s)) with
      | true =>
        have hn' : roomy s = true ∨ sizeB (wideN s) = true := by simpa using hn
        have he : putS s lab cell = (setS (moreS s) lab cell, 0) := by unfold putS; rw [if_pos h', if_pos g, if_pos hn]
        obtain ⟨k, k1, k2, k3, k4, k5, k6, _⟩ := more_set (cell := cell) hp (by omega) (by omega) hn' g
        have hmne : (moreS s).bs ≠ [] := by intro e; rw [e] at k6; simp at k6
        simp [g]
        refine callK.own [] [] (wider_own hp hn') (by simp) (by simp) (by simp) (by simp) (by simp) (by simp) (by simp) (by simp) (by simp) (by simp) ?_
        simp
        refine callK.own [] [(280, 0)] (set_own (s := moreS s) (k := k) (cell := cell) (by omega) k4 k5 k1 k2) (by simp) (by simp) (by simp) (by simp) (by simp) (by simp [hmne]) (by simp) (by simp) (by simp) (by simp) ?_
        simp
        have ht : List.take (moreS s).bs.length (setS (moreS s) lab cell).bs = (setS (moreS s) lab cell).bs := List.take_of_length_le (by simp)
        exact .frz [280] [6, 7] (by simp) (by simp) (by simp) (by simp) (by simp [he, ht])
      | false =>
        have hn' : roomy s = false ∧ sizeB (wideN s) = false := by simpa using hn
        have he : putS s lab cell = (s, 20) := by unfold putS; rw [if_pos h', if_pos g, if_neg (by rw [hn]; simp)]
        simp [g]
        refine .plain (wider_no hp hn'.1 hn'.2) (by simp) (by simp) ?_
        simp
        refine .plain (own_call hl) (by simp) (by simp) ?_
        simp
        exact .plain (by simp) (by simp [he])
    · have g1' : (k : Int) < s.bs.length := by omega
      have g5 : (k : Int) ≠ -1 := by omega
      have he : putS s lab cell = (⟨s.bs.set k { atB s.bs k with cell := cell }, s.many, s.gone⟩, 0) := by unfold putS; rw [if_pos h', if_neg (by rw [g2]; exact g5), g2]; rfl
      rw [atB_get g1] at he
      simp [g2, g1, g1', g5, rowB]
      refine callK.own [] [] (own_own hne hl) (by simp) (by simp) (by simp) (by simp) (by simp) (by simp) (by simp) (by simp) (by simp) (by simp) ?_
      simp [g1, g1', rowB]
      exact .frz [280] [6, 7] (by simp) (by simp) (by simp) (by simp) (by simp [he])
theorem size_double {n : Nat} (h : sizeB n = true) : sizeB (2 * n : Nat) = decide ((2 * n : Nat) ≤ 4096) := by
  simp only [sizeB, List.mem_cons, List.not_mem_nil, or_false, decide_eq_true_eq] at h ⊢
  rw [decide_eq_decide]
  omega
def refput_inv (s : Sto) (lab cell : ByteArray) (m : Nat) (st : St) : Prop := ∃ i : Nat, m = s.bs.length - i ∧ i ≤ s.bs.length ∧
  st = ⟨104, [(12, .val (.int .i64 i)), (8, .ref 80 3 0 0), (3, .ref 64 3 0 0), (6, .ref 72 3 0 0), (1, .val (.string lab)), (2, .val (.string cell))],
    [(64, ⟨31, 3, [[.rd 3 (rowsB s.bs), .val (.int .i64 s.many), .val (.int .i64 s.gone)]], .cells⟩), (72, ⟨31, 3, [[.val (.slice none 0 0), .val (.int .i64 0), .val (.int .i64 0)]], .cells⟩), (80, ⟨31, 3, [[.sl 88 3 0 (partS s i).bs.length, .val (.int .i64 (partS s i).many), .val (.int .i64 (partS s i).gone)]], .cells⟩), (88, ⟨95, 3, rowsB (partS s i).bs, .cells⟩)], 96⟩
theorem refput_call (s : Sto) (lab cell : ByteArray) (hl : s.bs.length < 1000000) : CallOk Tryz.prog 71 [stoP s, .val (.string lab), .val (.string cell)] [] (.tup [stoP (putS s lab cell).1, eI (putS s lab cell).2]) [] := by
  refine .of_exec Tryz.func71 rfl (enters_71) rfl rfl (Nat.le_of_ble_eq_true rfl) (fun n _ => rfl) ?_
  simp
  refine callK.own [] [] (refown_own hl) (by simp) (by simp) (by simp) (by simp) (by simp) (by simp) (by simp) (by simp) (by simp) (by simp) ?_
  simp
  refine .plain (refright_call s (by omega)) (by simp) (by simp) ?_
  cases h : (rightB s && decide ((lab.size : Int) = 16) && decide ((cell.size : Int) = 40)) with
  | false =>
    have hb := put_bad h
    have h' : (!rightB s || !decide ((lab.size : Int) = 16) || !decide ((cell.size : Int) = 40)) = true := by
      revert h
      cases rightB s <;> cases decide ((lab.size : Int) = 16) <;> cases decide ((cell.size : Int) = 40) <;> simp
    simp [h']
    exact .frz [96] [6, 7] (by simp) (by simp) (by simp) (by simp) (by simp [hb])
  | true =>
    have h' := h
    simp only [Bool.and_eq_true, decide_eq_true_eq] at h
    obtain ⟨⟨hr, hlab⟩, hcell⟩ := h
    simp [hr, hlab, hcell]
    refine .plain (reffind_call s lab (by omega)) (by simp) (by simp) ?_
    have hp := (right_iff s).1 hr
    have hs := right_small hp
    have hne : s.bs ≠ [] := by intro e; rw [e] at hs; simp at hs
    rcases find_mem hp.path hp.dist lab (size_pos hp.size) with ⟨g, _⟩ | ⟨k, g1, g2, g3, g4⟩
    · have w1 : IntKind.i64.wrap (s.many + s.gone) = s.many + s.gone := w64 (by omega) (by omega)
      have w2 : IntKind.i64.wrap (s.many + s.gone + 1) = s.many + s.gone + 1 := w64 (by omega) (by omega)
      have w3 : IntKind.i64.wrap (4 * (s.many + s.gone + 1)) = 4 * (s.many + s.gone + 1) := w64 (by omega) (by omega)
      have w4 : IntKind.i64.wrap (3 * (s.bs.length : Int)) = 3 * s.bs.length := w64 (by omega) (by omega)
      have w5 : IntKind.i64.wrap (2 * s.many) = 2 * s.many := w64 (by omega) (by omega)
      by_cases c : roomy s = true
      · have c' : ¬ 3 * (s.bs.length : Int) < 4 * (s.many + s.gone + 1) := by
          have : 4 * (s.many + s.gone + 1) ≤ 3 * (s.bs.length : Int) := by simpa [roomy] using c
          omega
        have hn' : roomy s = true ∨ sizeB (wideN s) = true := .inl c
        have he : putS s lab cell = (setS (moreS s) lab cell, 0) := by unfold putS; rw [if_pos h', if_pos g, if_pos (by rw [c]; rfl)]
        obtain ⟨k, k1, k2, k3, k4, k5, k6, _⟩ := more_set (cell := cell) hp (by omega) (by omega) hn' g
        have em : moreS s = s := if_pos c
        rw [em] at k1 k2 k3 k4 k5 he
        simp [g, w1, w2, w3, w4, c']
        refine callK.own [] [(96, 0)] (refset_own (s := s) (k := k) (cell := cell) (by omega) k4 k5 k1 k2) (by simp) (by simp) (by simp) (by simp) (by simp) (by simp [hne]) (by simp) (by simp) (by simp) (by simp) ?_
        simp
        have ht : List.take s.bs.length (setS s lab cell).bs = (setS s lab cell).bs := List.take_of_length_le (by simp)
        exact .frz [96] [6, 7] (by simp) (by simp) (by simp) (by simp) (by simp [he, ht])
      · have c' : 3 * (s.bs.length : Int) < 4 * (s.many + s.gone + 1) := by
          have : ¬ 4 * (s.many + s.gone + 1) ≤ 3 * (s.bs.length : Int) := by simpa [roomy] using c
          omega
        by_cases c2 : 2 * s.many ≥ s.bs.length
        · have e : wideN s = 2 * s.bs.length := if_pos c2
          have w6 : IntKind.i64.wrap (2 * (s.bs.length : Int)) = wideN s := by rw [w64 (by omega) (by omega)]; omega
          have hd := size_double hp.size
          rw [← e] at hd
          by_cases c3 : wideN s ≤ 4096
          · have c3' : ¬ (4096 : Int) < wideN s := by omega
            have hn' : sizeB (wideN s) = true := by rw [hd]; simpa using c3
            simp [g, w1, w2, w3, w4, w5, w6, c', c2, c3']
            refine callK.own [] [] (refnew_own hn') (by simp) (by simp) (by simp) (by simp) (by simp) (by simp) (by simp) (by simp) (by simp) (by simp) ?_
            simp
            refine WPg.loopW (refput_inv s lab cell) ⟨s.bs.length, _, ?_, ⟨0, by simp, by simp, rfl⟩⟩ ?_
            · exact Wk.rn [(64, 64), (72, 72), (104, 80), (504, 88)] rfl (by simp) (by simp) (by simp [refillS, e])
            rintro m st ⟨i, g1, g2, rfl⟩
            by_cases hi : i < s.bs.length
            · have hi' : (i : Int) < s.bs.length := by omega
              have hw : IntKind.i64.wrap ((i : Int) + 1) = ((i + 1 : Nat) : Int) := by rw [w64 (by omega) (by omega)]; omega
              obtain ⟨f1, f2, f3, f4, f5, f6⟩ := refill_ok hp hn' (wide_le hp) (i + 1) (by omega)
              obtain ⟨k1, k2, k3, k4, _⟩ := refill_ok hp hn' (wide_le hp) i (by omega)
              have hle := usedN_le (s.bs.take i)
              rw [List.length_take] at hle
              have hsz := size_le hn'
              have k2' : (partS s i).bs.length = wideN s := k2
              have k3' : (partS s i).many = usedN (s.bs.take i) := k3
              have k4' : (partS s i).gone = 0 := k4
              have kne : (partS s i).bs ≠ [] := by intro e'; rw [e'] at k2'; simp at k2'; omega
              have hb := atB_get hi
              by_cases c1 : (atB s.bs i).st = 1
              · obtain ⟨k, r1, r2⟩ := f6 i (by omega) c1
                have r3 := refill_succ (t := freshS (wideN s)) hi
                rw [if_pos c1] at r3
                rw [hb] at c1 r2 r3
                simp [hi, hi', rowB, c1]
                refine callT.own [] [(88, 0)] (refset_own (s := partS s i) (k := k) (cell := s.bs[i].cell) (by omega) ⟨by omega, by omega⟩ ⟨by omega, by omega⟩ (by omega) r2) (by simp) (by simp) (by simp) (by simp) (by simp) (by simp [kne]) (by simp) (by simp) (by simp) (by simp) ?_
                simp
                refine ⟨rfl, s.bs.length - (i + 1), by omega, _, ?_, ⟨i + 1, rfl, by omega, rfl⟩⟩
                rw [hw]
                exact Wk.rn [(64, 64), (72, 72), (80, 80), (88, 88)] rfl (by simp) (by simp) (by simp [r3])
              · have r3 := refill_succ (t := freshS (wideN s)) hi
                rw [if_neg c1] at r3
                rw [hb] at c1
                simp [hi, hi', rowB, c1]
                refine ⟨s.bs.length - (i + 1), by omega, _, ?_, ⟨i + 1, rfl, by omega, rfl⟩⟩
                rw [hw]
                exact Wk.rn [(64, 64), (72, 72), (80, 80), (88, 88)] rfl (by simp) (by simp) (by simp [r3])
            · obtain rfl : i = s.bs.length := by omega
              have pa : partS s s.bs.length = moreS s := by unfold moreS partS wideS; rw [if_neg c, List.take_length]
              have he : putS s lab cell = (setS (moreS s) lab cell, 0) := by unfold putS; rw [if_pos h', if_pos g, if_pos (by rw [hn']; simp)]
              obtain ⟨k, k1, k2, k3, k4, k5, k6, _⟩ := more_set (cell := cell) hp (by omega) (by omega) (.inr hn') g
              have hmne : (moreS s).bs ≠ [] := by intro e; rw [e] at k6; simp at k6
              have ht : List.take (moreS s).bs.length (setS (moreS s) lab cell).bs = (setS (moreS s) lab cell).bs := List.take_of_length_le (by simp)
              rw [pa]
              simp
              refine callK.own [] [(88, 0)] (refset_own (s := moreS s) (k := k) (cell := cell) (by omega) k4 k5 k1 k2) (by simp) (by simp) (by simp) (by simp) (by simp) (by simp [hmne]) (by simp) (by simp) (by simp) (by simp) ?_
              simp
              exact .frz [88] [6, 7] (by simp) (by simp) (by simp) (by simp) (by simp [he, ht])
          · have c3' : (4096 : Int) < wideN s := by omega
            have hn' : (roomy s || sizeB (wideN s)) = false := by rw [hd]; simp [c, c3]
            have he : putS s lab cell = (s, 20) := by unfold putS; rw [if_pos h', if_pos g, if_neg (by rw [hn']; simp)]
            simp [g, w1, w2, w3, w4, w5, w6, c', c2, c3']
            exact .frz [96] [6, 7] (by simp) (by simp) (by simp) (by simp) (by simp [he])
        · have e : wideN s = s.bs.length := if_neg c2
          have c3' : ¬ (4096 : Int) < s.bs.length := by omega
          have hn2 := hp.size
          simp [g, w1, w2, w3, w4, w5, c', c2, c3']
          refine callK.own [] [] (refnew_own hn2) (by simp) (by simp) (by simp) (by simp) (by simp) (by simp) (by simp) (by simp) (by simp) (by simp) ?_
          have hn' : sizeB (wideN s) = true := by rw [e]; exact hn2
          simp
          refine WPg.loopW (refput_inv s lab cell) ⟨s.bs.length, _, ?_, ⟨0, by simp, by simp, rfl⟩⟩ ?_
          · exact Wk.rn [(64, 64), (72, 72), (104, 80), (480, 88)] rfl (by simp) (by simp) (by simp [refillS, e])
          rintro m st ⟨i, g1, g2, rfl⟩
          by_cases hi : i < s.bs.length
          · have hi' : (i : Int) < s.bs.length := by omega
            have hw : IntKind.i64.wrap ((i : Int) + 1) = ((i + 1 : Nat) : Int) := by rw [w64 (by omega) (by omega)]; omega
            obtain ⟨f1, f2, f3, f4, f5, f6⟩ := refill_ok hp hn' (wide_le hp) (i + 1) (by omega)
            obtain ⟨k1, k2, k3, k4, _⟩ := refill_ok hp hn' (wide_le hp) i (by omega)
            have hle := usedN_le (s.bs.take i)
            rw [List.length_take] at hle
            have hsz := size_le hn'
            have k2' : (partS s i).bs.length = wideN s := k2
            have k3' : (partS s i).many = usedN (s.bs.take i) := k3
            have k4' : (partS s i).gone = 0 := k4
            have kne : (partS s i).bs ≠ [] := by intro e'; rw [e'] at k2'; simp at k2'; omega
            have hb := atB_get hi
            by_cases c1 : (atB s.bs i).st = 1
            · obtain ⟨k, r1, r2⟩ := f6 i (by omega) c1
              have r3 := refill_succ (t := freshS (wideN s)) hi
              rw [if_pos c1] at r3
              rw [hb] at c1 r2 r3
              simp [hi, hi', rowB, c1]
              refine callT.own [] [(88, 0)] (refset_own (s := partS s i) (k := k) (cell := s.bs[i].cell) (by omega) ⟨by omega, by omega⟩ ⟨by omega, by omega⟩ (by omega) r2) (by simp) (by simp) (by simp) (by simp) (by simp) (by simp [kne]) (by simp) (by simp) (by simp) (by simp) ?_
              simp
              refine ⟨rfl, s.bs.length - (i + 1), by omega, _, ?_, ⟨i + 1, rfl, by omega, rfl⟩⟩
              rw [hw]
              exact Wk.rn [(64, 64), (72, 72), (80, 80), (88, 88)] rfl (by simp) (by simp) (by simp [r3])
            · have r3 := refill_succ (t := freshS (wideN s)) hi
              rw [if_neg c1] at r3
              rw [hb] at c1
              simp [hi, hi', rowB, c1]
              refine ⟨s.bs.length - (i + 1), by omega, _, ?_, ⟨i + 1, rfl, by omega, rfl⟩⟩
              rw [hw]
              exact Wk.rn [(64, 64), (72, 72), (80, 80), (88, 88)] rfl (by simp) (by simp) (by simp [r3])
          · obtain rfl : i = s.bs.length := by omega
            have pa : partS s s.bs.length = moreS s := by unfold moreS partS wideS; rw [if_neg c, List.take_length]
            have he : putS s lab cell = (setS (moreS s) lab cell, 0) := by unfold putS; rw [if_pos h', if_pos g, if_pos (by rw [hn']; simp)]
            obtain ⟨k, k1, k2, k3, k4, k5, k6, _⟩ := more_set (cell := cell) hp (by omega) (by omega) (.inr hn') g
            have hmne : (moreS s).bs ≠ [] := by intro e; rw [e] at k6; simp at k6
            have ht : List.take (moreS s).bs.length (setS (moreS s) lab cell).bs = (setS (moreS s) lab cell).bs := List.take_of_length_le (by simp)
            rw [pa]
            simp
            refine callK.own [] [(88, 0)] (refset_own (s := moreS s) (k := k) (cell := cell) (by omega) k4 k5 k1 k2) (by simp) (by simp) (by simp) (by simp) (by simp) (by simp [hmne]) (by simp) (by simp) (by simp) (by simp) ?_
            simp
            exact .frz [88] [6, 7] (by simp) (by simp) (by simp) (by simp) (by simp [he, ht])
    · have g1' : (k : Int) < s.bs.length := by omega
      have g5 : (k : Int) ≠ -1 := by omega
      have he : putS s lab cell = (⟨s.bs.set k { atB s.bs k with cell := cell }, s.many, s.gone⟩, 0) := by unfold putS; rw [if_pos h', if_neg (by rw [g2]; exact g5), g2]; rfl
      rw [atB_get g1] at he
      simp [g2, g1, g1', g5, rowB]
      exact .frz [96] [6, 7] (by simp) (by simp) (by simp) (by simp) (by simp [he])
end Go.Proofs.YtbigcojlpcchiaaGreat.Sy.Bk

namespace Go.Proofs.YtbigcojlpcchiaaGreat.Sy.Bk
open Go Go.RowKit
set_option linter.unusedVariables false
set_option linter.unusedSimpArgs false
theorem put_right {s : Sto} (h : RightI s) {lab cell : ByteArray} (hl : lab.size = 16) (hc : cell.size = 40) : RightI (putS s lab cell).1 := by
  unfold putS
  split
  · split
    · next g =>
      split
      · next hn =>
        obtain ⟨k, k1, k2, k3, k4, k5, k6, k7, _⟩ := more_set (cell := cell) h hl hc (by simpa using hn) g
        exact k7
      · exact h
    · next g =>
      rcases find_mem h.path h.dist lab (size_pos h.size) with ⟨g', _⟩ | ⟨k, g1, g2, g3, g4⟩
      · exact absurd g' g
      · simp only [g2, Int.toNat_natCast]
        exact over_right h hc g1 g3
  · exact h
theorem in_unique {s : Sto} (h : RightI s) {l c c' : ByteArray} (h1 : inB s.bs l c) (h2 : inB s.bs l c') : c = c' := by
  obtain ⟨j, j1, j2, j3, j4⟩ := h1
  obtain ⟨k, k1, k2, k3, k4⟩ := h2
  obtain rfl := h.dist j k j1 k1 j2 k2 (j3.trans k3.symm)
  rw [← j4, k4]
theorem find_in {s : Sto} (h : RightI s) {l c : ByteArray} (h1 : inB s.bs l c) : ∃ k : Nat, k < s.bs.length ∧ (findB s.bs l).1 = k ∧ (atB s.bs k).st = 1 ∧ (atB s.bs k).lab = l ∧ (atB s.bs k).cell = c := by
  obtain ⟨j, j1, j2, j3, j4⟩ := h1
  have := find_of h.path h.dist j1 j2
  rw [j3] at this
  exact ⟨j, j1, this, j2, j3, j4⟩
theorem find_not {s : Sto} (h : RightI s) {l : ByteArray} (h1 : ∀ c, ¬ inB s.bs l c) : (findB s.bs l).1 = -1 := by
  rcases find_mem h.path h.dist l (size_pos h.size) with ⟨g, _⟩ | ⟨k, g1, g2, g3, g4⟩
  · exact g
  · exact absurd ⟨k, g1, g3, g4, rfl⟩ (h1 _)
theorem in_dec (s : Sto) (l : ByteArray) : (∃ c, inB s.bs l c) ∨ ∀ c, ¬ inB s.bs l c := by
  by_cases h : ∃ c, inB s.bs l c
  · exact .inl h
  · exact .inr fun c hc => h ⟨c, hc⟩
theorem get_in {s : Sto} (h : RightI s) {l c : ByteArray} (h1 : inB s.bs l c) : getS s l = (c, true) := by
  obtain ⟨k, k1, k2, k3, k4, k5⟩ := find_in h h1
  unfold getS
  rw [if_pos ((right_iff s).2 h), k2, if_neg (by omega)]
  simp only [Int.toNat_natCast, k5]
theorem get_not {s : Sto} (h : RightI s) {l : ByteArray} (h1 : ∀ c, ¬ inB s.bs l c) : getS s l = (⟨#[]⟩, false) := by
  unfold getS
  rw [if_pos ((right_iff s).2 h), if_pos (find_not h h1)]
theorem del_in {s : Sto} (h : RightI s) {l c : ByteArray} (h1 : inB s.bs l c) : ∃ s', delS s l = (s', true, 0) ∧ RightI s' ∧ s'.many = s.many - 1 ∧ s'.gone = s.gone + 1 ∧ s'.bs.length = s.bs.length ∧ ∀ l' c', inB s'.bs l' c' ↔ l' ≠ l ∧ inB s.bs l' c' := by
  obtain ⟨k, k1, k2, k3, k4, k5⟩ := find_in h h1
  refine ⟨⟨s.bs.set k ⟨2, ⟨#[]⟩, ⟨#[]⟩⟩, s.many - 1, s.gone + 1⟩, ?_, del_right h k1 k3, rfl, rfl, by simp, fun l' c' => ?_⟩
  · unfold delS
    rw [if_pos ((right_iff s).2 h), k2, if_neg (by omega)]
    rfl
  · unfold inB
    simp only [List.length_set]
    constructor
    · rintro ⟨j, j1, j2⟩
      rw [atB_set k1] at j2
      by_cases e : k = j
      · rw [if_pos e] at j2; simp at j2
      · rw [if_neg e] at j2
        exact ⟨fun e' => e (h.dist k j k1 j1 k3 j2.1 (by rw [k4, j2.2.1, e'])), j, j1, j2⟩
    · rintro ⟨hne, j, j1, j2⟩
      refine ⟨j, j1, ?_⟩
      rw [atB_set k1, if_neg (fun e => by subst e; exact hne (j2.2.1.symm.trans k4))]
      exact j2
theorem del_not {s : Sto} (h : RightI s) {l : ByteArray} (h1 : ∀ c, ¬ inB s.bs l c) : delS s l = (s, false, 0) := by
  unfold delS
  rw [if_pos ((right_iff s).2 h), if_pos (find_not h h1)]
theorem put_ok {s : Sto} (h : RightI s) {l c : ByteArray} (hl : l.size = 16) (hc : c.size = 40) : (rightB s && decide ((l.size : Int) = 16) && decide ((c.size : Int) = 40)) = true := by
  rw [(right_iff s).2 h, hl, hc]; rfl
theorem put_over {s : Sto} (h : RightI s) {l c c0 : ByteArray} (hl : l.size = 16) (hc : c.size = 40) (h1 : inB s.bs l c0) : ∃ k : Nat, k < s.bs.length ∧ (atB s.bs k).st = 1 ∧ (atB s.bs k).lab = l ∧ (atB s.bs k).cell = c0 ∧ putS s l c = (⟨s.bs.set k { atB s.bs k with cell := c }, s.many, s.gone⟩, 0) ∧
    RightI (putS s l c).1 ∧ ∀ l' c', inB (putS s l c).1.bs l' c' ↔ (l' = l ∧ c' = c) ∨ (l' ≠ l ∧ inB s.bs l' c') := by
  obtain ⟨k, k1, k2, k3, k4, k5⟩ := find_in h h1
  have he : putS s l c = (⟨s.bs.set k { atB s.bs k with cell := c }, s.many, s.gone⟩, 0) := by
    unfold putS
    rw [if_pos (put_ok h hl hc), k2, if_neg (by omega)]
    rfl
  refine ⟨k, k1, k3, k4, k5, he, put_right h hl hc, fun l' c' => ?_⟩
  rw [he]
  unfold inB
  simp only [List.length_set]
  constructor
  · rintro ⟨j, j1, j2⟩
    rw [atB_set k1] at j2
    by_cases e : k = j
    · rw [if_pos e] at j2
      exact .inl ⟨j2.2.1.symm.trans k4, j2.2.2.symm⟩
    · rw [if_neg e] at j2
      exact .inr ⟨fun e' => e (h.dist k j k1 j1 k3 j2.1 (by rw [k4, j2.2.1, e'])), j, j1, j2⟩
  · rintro (⟨rfl, rfl⟩ | ⟨hne, j, j1, j2⟩)
    · exact ⟨k, k1, by rw [atB_set k1, if_pos rfl]; exact ⟨k3, k4, rfl⟩⟩
    · refine ⟨j, j1, ?_⟩
      rw [atB_set k1, if_neg (fun e => by subst e; exact hne (j2.2.1.symm.trans k4))]
      exact j2
theorem put_new {s : Sto} (h : RightI s) {l c : ByteArray} (hl : l.size = 16) (hc : c.size = 40) (h1 : ∀ c, ¬ inB s.bs l c) (hn : roomy s = true ∨ sizeB (wideN s) = true) : putS s l c = (setS (moreS s) l c, 0) ∧ RightI (putS s l c).1 ∧ (putS s l c).1.many = s.many + 1 ∧
    ∀ l' c', inB (putS s l c).1.bs l' c' ↔ (l' = l ∧ c' = c) ∨ (l' ≠ l ∧ inB s.bs l' c') := by
  have g := find_not h h1
  have he : putS s l c = (setS (moreS s) l c, 0) := by
    unfold putS
    rw [if_pos (put_ok h hl hc), if_pos g, if_pos (by simpa using hn)]
  obtain ⟨k, _, _, _, _, _, _, k7, k8, k9⟩ := more_set (cell := c) h hl hc hn g
  refine ⟨he, put_right h hl hc, by rw [he]; exact k9, fun l' c' => ?_⟩
  rw [he]
  show inB (setS (moreS s) l c).bs l' c' ↔ _
  rw [k8]
  constructor
  · rintro (h2 | h2)
    · exact .inl h2
    · exact .inr ⟨fun e => h1 c' (e ▸ h2), h2⟩
  · rintro (h2 | h2)
    · exact .inl h2
    · exact .inr h2.2
theorem nodup_le {α : Type} [DecidableEq α] : ∀ (l m : List α), l.Nodup → (∀ x ∈ l, x ∈ m) → l.length ≤ m.length
  | [], m, _, _ => Nat.zero_le _
  | a :: l, m, hn, hs => by
    rw [List.nodup_cons] at hn
    have h1 := hs a List.mem_cons_self
    have := nodup_le l (m.erase a) hn.2 (fun x hx => (List.mem_erase_of_ne (fun (e : x = a) => hn.1 (by rw [← e]; exact hx))).2 (hs x (List.mem_cons_of_mem _ hx)))
    rw [List.length_erase_of_mem h1] at this
    have hp := List.length_pos_of_mem h1
    rw [List.length_cons]
    omega
theorem sizeB_iff (n : Int) : sizeB n = true ↔ n = 8 ∨ n = 16 ∨ n = 32 ∨ n = 64 ∨ n = 128 ∨ n = 256 ∨ n = 512 ∨ n = 1024 ∨ n = 2048 ∨ n = 4096 := by simp [sizeB]
theorem wide40 {s : Sto} (h : RightI s) (hm : s.many ≤ 40) : sizeB (wideN s) = true := by
  have hs := (sizeB_iff _).1 h.size
  rw [sizeB_iff]
  unfold wideN
  split <;> omega
end Go.Proofs.YtbigcojlpcchiaaGreat.Sy.Bk

namespace Go.Proofs.YtbigcojlpcchiaaGreat.Sy.Bk
open Go Go.RowKit
set_option linter.unusedVariables false
set_option linter.unusedSimpArgs false
set_option maxRecDepth 10000
set_option maxHeartbeats 4000000
def same_inv (s : Sto) (m : Nat) (st : St) : Prop := ∃ i : Nat, m = s.bs.length - i ∧ i ≤ s.bs.length ∧
  st = ⟨45, [(5, .val (.int .i64 i)), (3, .ref 72 3 0 0), (2, .ref 64 3 0 0)], [(64, ⟨31, 3, [[.rd 3 (rowsB s.bs), .val (.int .i64 s.many), .val (.int .i64 s.gone)]], .cells⟩), (72, ⟨31, 3, [[.rd 3 (rowsB s.bs), .val (.int .i64 s.many), .val (.int .i64 s.gone)]], .cells⟩)], 80⟩
theorem same_call (s : Sto) (hl : s.bs.length < 1000000) : CallOk Tryz.prog 31 [stoP s, stoP s] [] (.val (.bool true)) [] := by
  refine .of_exec Tryz.func31 rfl (enters_31) rfl rfl (Nat.le_of_ble_eq_true rfl) (fun n _ => rfl) ?_
  simp
  refine WPg.loopW (same_inv s) ⟨s.bs.length, _, ?_, ⟨0, by simp, by simp, rfl⟩⟩ ?_
  · exact Wk.rn [(64, 64), (72, 72)] rfl (by simp) (by simp) (by simp)
  rintro m st ⟨i, h1, h2, rfl⟩
  by_cases hi : i < s.bs.length
  · have hi' : (i : Int) < s.bs.length := by omega
    have hw : IntKind.i64.wrap ((i : Int) + 1) = ((i + 1 : Nat) : Int) := by rw [w64 (by omega) (by omega)]; omega
    simp [hi, hi', rowB, hw]
    refine ⟨rfl, s.bs.length - (i + 1), by omega, _, ?_, ⟨i + 1, rfl, by omega, rfl⟩⟩
    exact Wk.rn [(64, 64), (72, 72)] rfl (by simp) (by simp) (by simp)
  · obtain rfl : i = s.bs.length := by omega
    simp
    exact .plain (by simp) (by simp)
end Go.Proofs.YtbigcojlpcchiaaGreat.Sy.Bk
