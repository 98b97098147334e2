/- Sy: strings.Builder's WriteString and Len. -/
import Derived.Test.YtbigcojlpcchiaaGreatSyBld
namespace Go.Proofs.YtbigcojlpcchiaaGreat.Sy
open Go Go.RowKit
set_option linter.unusedVariables false
set_option linter.unusedSimpArgs false
set_option maxRecDepth 10000
set_option maxHeartbeats 4000000
theorem map_brow {f : PV → PV} (hf : ∀ v, f (.val v) = .val v) (s : ByteArray) : (brow s).map (List.map f) = brow s := by
  unfold brow
  rw [List.map_map]
  exact List.map_congr_left fun b _ => by simp [u8row, hf]
@[simp] theorem map_brow_rn0 (π : Nat → Option Nat) (s : ByteArray) : (brow s).map (List.map (rn0 π)) = brow s := map_brow (fun _ => rfl) s
@[simp] theorem map_brow_low0 (obs : List (Nat × Ob)) (B : List Nat) (s : ByteArray) : (brow s).map (List.map (low0 obs B)) = brow s := map_brow (fun _ => rfl) s
@[simp ↓] theorem brow_ok' (s : ByteArray) : RowsOk 1 (brow s) ↔ True := ⟨fun _ => trivial, fun _ => u8rows_ok _⟩
@[simp ↓] theorem brow_nf' (s : ByteArray) : nfRows (brow s) ↔ True := ⟨fun _ => trivial, fun _ r hr c hc => by
  obtain ⟨n, _, rfl⟩ := List.mem_map.1 hr
  simp only [u8row, List.mem_singleton] at hc
  rw [hc]; trivial⟩
@[simp] theorem brow_app (s t : ByteArray) : brow s ++ brow t = brow (s ++ t) := by
  unfold brow bytesI
  rw [← List.map_append, ← List.map_append]
  congr 2
@[simp] theorem brow_take_all {s : ByteArray} {n : Nat} (h : n = s.size) : (brow s).take n = brow s := List.take_of_length_le (by rw [brow_len, h]; exact Nat.le_refl _)
@[simp] theorem brow_eq_nil (s : ByteArray) : brow s = [] ↔ s.size = 0 := by
  rw [← List.length_eq_zero_iff, brow_len]
theorem pre2 {a b : Ob} (n : Nat) (h : 64 ≤ n) : lookO [(0, a), (1, b)] n = none := by
  rw [lookO, if_neg (by omega), lookO, if_neg (by omega)]; rfl
theorem pre1 {a : Ob} (n : Nat) (h : 64 ≤ n) : lookO [(0, a)] n = none := by
  rw [lookO, if_neg (by omega)]; rfl
theorem Write_again {t s : ByteArray} (h0 : 0 < t.size) (h : t.size + s.size ≤ 140737488355328) : CallOk Tryz.prog 117 [.ref 0 2 0 0, .val (.string s)] [(0, bldO (.ref 0 2 0 0) (.sl 1 1 0 t.size)), (1, bytO t)] (.tup [.val (.int .i64 s.size), .val .nilIface]) [(0, bldO (.ref 0 2 0 0) (.sl 2 1 0 (t ++ s).size)), (2, bytO (t ++ s))] := by
  refine .of_exec Tryz.func117 rfl (enters_117) rfl rfl (Nat.le_of_ble_eq_true rfl) pre2 ?_
  simp
  refine callK.own [] [(0, 0), (1, 1)] (copyCheck_again (n := t.size) (s := t)) (by simp) (by simp) (by simp) (by simp) (by simp) (by simp; intro e; rw [e] at h0; simp at h0) (by simp) (by simp) (by simp) (by simp) ?_
  have h' : (t.size + s.size) * 1 ≤ 140737488355328 := by omega
  simp [h]
  exact .own [(0, 0), (144, 2)] (by simp) (by simp) (by simp) (by simp) (by simp)
theorem Write_first {s : ByteArray} (h : s.size ≤ 140737488355328) : CallOk Tryz.prog 117 [.ref 0 2 0 0, .val (.string s)] [(0, bldO (.val (.pointer none)) (.val (.slice none 0 0)))] (.tup [.val (.int .i64 s.size), .val .nilIface]) [(0, bldO (.ref 0 2 0 0) (.sl 1 1 0 s.size)), (1, bytO s)] := by
  refine .of_exec Tryz.func117 rfl (enters_117) rfl rfl (Nat.le_of_ble_eq_true rfl) pre1 ?_
  simp
  refine callK.own [] [(0, 0)] copyCheck_first (by simp) (by simp) (by simp) (by simp) (by simp) (by simp) (by simp) (by simp) (by simp) (by simp) ?_
  simp [h]
  exact .own [(0, 0), (144, 1)] (by simp) (by simp) (by simp) (by simp) (by simp)
theorem Len_again {t : ByteArray} : CallOk Tryz.prog 120 [.ref 0 2 0 0] [(0, bldO (.ref 0 2 0 0) (.sl 1 1 0 t.size)), (1, bytO t)] (.val (.int .i64 t.size)) [(0, bldO (.ref 0 2 0 0) (.sl 1 1 0 t.size)), (1, bytO t)] := by
  refine .of_exec Tryz.func120 rfl (enters_120) rfl rfl (Nat.le_of_ble_eq_true rfl) pre2 ?_
  simp
  exact .own [(0, 0), (1, 1)] (by simp) (by simp) (by simp) (by simp) (by simp)
end Go.Proofs.YtbigcojlpcchiaaGreat.Sy
