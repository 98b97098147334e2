/- Layer 11: each text once. -/
import Derived.Test.YtbigcojlpcchiaaGreatSySrt
import Derived.Test.YtbigcojlpcchiaaGreatSyRng
import Derived.Test.YtbigcojlpcchiaaGreatSyMore
import Derived.Test.YtbigcojlpcchiaaGreatC11a
import Derived.Lib.RowBridge
namespace Go.Proofs.YtbigcojlpcchiaaGreat.Sy
open Go Go.RowKit Go.Sort
set_option linter.unusedVariables false
set_option linter.unusedSimpArgs false
set_option maxRecDepth 10000
set_option maxHeartbeats 4000000
abbrev LB := List UInt8
theorem sort_perm (l : List LB) : (l.mergeSort fun x y => decide (x ≤ y)).Perm l := List.mergeSort_perm _ _
theorem sort_le (l : List LB) : (l.mergeSort fun x y => decide (x ≤ y)).Pairwise (· ≤ ·) := by
  have h := List.pairwise_mergeSort (le := fun x y : LB => decide (x ≤ y)) (fun a b c h1 h2 => by
    simp only [decide_eq_true_eq] at *; exact List.le_trans h1 h2) (fun a b => by
    rcases List.le_total a b with h | h <;> simp [h]) l
  exact h.imp (fun h => by simpa using h)
theorem compact_len (zs : List LB) : (Lib.compact zs).length = zs.length ↔ ∀ j, j < zs.length → Lib.keeps zs.toArray j = true := by
  unfold Lib.compact Lib.compactUpTo
  rw [List.length_map]
  have h := List.length_filter_eq_length_iff (l := List.range zs.length) (p := Lib.keeps zs.toArray)
  rw [List.length_range] at h
  rw [h]
  exact ⟨fun g j hj => g j (List.mem_range.2 hj), fun g j hj => g j (List.mem_range.1 hj)⟩
theorem keeps_nodup (zs : List LB) (hs : zs.Pairwise (· ≤ ·)) : (∀ j, j < zs.length → Lib.keeps zs.toArray j = true) ↔ zs.Nodup := by
  have hg : ∀ j (h : j < zs.length), zs.toArray[j]! = zs[j] := fun j h => by rw [getElem!_pos _ j (by simpa using h)]; simp
  have hle := List.pairwise_iff_getElem.1 hs
  constructor
  · intro h
    refine List.pairwise_iff_getElem.2 fun i j hi hj hij e => ?_
    have h1 := h j hj
    simp only [Lib.keeps, decide_eq_true_eq] at h1
    have h2 : zs[j] ≠ zs[j - 1] := by
      rcases h1 with h1 | h1
      · omega
      · rwa [hg j hj, hg (j - 1) (by omega)] at h1
    have h3 : zs[j - 1] ≤ zs[j] := hle (j - 1) j (by omega) hj (by omega)
    have h4 : zs[i] ≤ zs[j - 1] := by
      by_cases e2 : i = j - 1
      · subst e2; exact List.le_refl _
      · exact hle i (j - 1) hi (by omega) (by omega)
    rw [e] at h4
    exact h2 (List.le_antisymm h4 h3)
  · intro h j hj
    simp only [Lib.keeps, decide_eq_true_eq]
    by_cases e : j = 0
    · exact .inl e
    · refine .inr ?_
      rw [hg j hj, hg (j - 1) (by omega)]
      exact fun e2 => (List.pairwise_iff_getElem.1 h (j - 1) j (by omega) hj (by omega)) e2.symm
theorem ofB_nodup (l : List ByteArray) : (ofB l).Nodup ↔ l.Nodup := by
  unfold ofB List.Nodup
  rw [List.pairwise_map]
  refine ⟨fun h => h.imp fun {a b} g e => g (by rw [e]), fun h => h.imp fun {a b} g e => g (ByteArray.ext (Array.toList_inj.1 e))⟩
theorem once_iff (l : List ByteArray) : (compactB (sortB l)).length = l.length ↔ l.Nodup := by
  have e1 : (compactB (sortB l)).length = (Lib.compact ((ofB l).mergeSort fun x y => decide (x ≤ y))).length := by
    rw [compactB, List.length_map, sortB, ofB_toB]
  have e2 : l.length = ((ofB l).mergeSort fun x y => decide (x ≤ y)).length := by rw [List.length_mergeSort, List.length_map]
  rw [e1, e2, compact_len, keeps_nodup _ (sort_le _), (sort_perm _).nodup_iff, ofB_nodup]
abbrev appRec (tm : Array Value) (fid : FuncId) (dfs : Nat) (A B : Code) : Ob := ⟨0, 0, [], .loop ⟨13, [(2, .ref 64 1 0 0)], tm, fid, #[7], A, B, dfs, .ready, none⟩⟩
def app_inv (l : List ByteArray) (tm : Array Value) (fid : FuncId) (dfs : Nat) (A B : Code) (m : Nat) (st : St) : Prop := ∃ (i : Nat), m = l.length - i ∧ i ≤ l.length ∧
  ((i = 0 ∧ st = ⟨16, [(7, .val (.int .i64 i)), (6, .val (.int .i64 l.length)), (5, .rd 1 (strs l)), (0, .yld 88)], [(88, appRec tm fid dfs A B), (64, ⟨24, 1, [[.val (.slice none 0 0)]], .cells⟩)], 120⟩) ∨
   (0 < i ∧ st = ⟨16, [(7, .val (.int .i64 i)), (6, .val (.int .i64 l.length)), (5, .rd 1 (strs l)), (0, .yld 88)], [(88, appRec tm fid dfs A B), (64, ⟨24, 1, [[.sl 112 1 0 i]], .cells⟩), (112, strO (l.take i))], 120⟩))
theorem AppendSeq_call {l : List ByteArray} (h0 : 0 < l.length) (hl : l.length ≤ 4294967296) : CallOk Tryz.prog 137 [.val (.slice none 0 0), .clo 132 [.rp 1 [[.rd 1 (strs l)]] 0 0]] [] (.sl 1 1 0 l.length) [(1, strO l)] := by
  refine .of_exec Tryz.func137 rfl (enters_137) rfl rfl (Nat.le_of_ble_eq_true rfl) (fun n _ => rfl) ?_
  simp
  refine WPg.rangeV (by simp) (by simp; rfl) (n := 16) Tryz.func132 rfl (enters_132) rfl (by simp) rfl fun tm fid dfs A B hA hB => ?_
  simp
  refine WPg.loopW (app_inv l tm fid dfs A B) ⟨l.length, _, ?_, ⟨0, by simp, by simp, .inl ⟨rfl, rfl⟩⟩⟩ ?_
  · exact Wk.rn [] rfl (by simp) (by simp) (by simp)
  rintro m st ⟨i, h1, h2, h3⟩
  by_cases hi : i < l.length
  · have hi' : (i : Int) < l.length := by omega
    have hw : IntKind.i64.wrap ((i : Int) + 1) = ((i + 1 : Nat) : Int) := by rw [w64 (by omega) (by omega)]; omega
    obtain ⟨x, hx⟩ : ∃ x, l[i] = x := ⟨_, rfl⟩
    have htk : l.take (i + 1) = l.take i ++ [x] := by rw [List.take_add_one, List.getElem?_eq_getElem hi, hx]; rfl
    have m1 : 1 ≤ maxLen := by decide
    have hmin : min i l.length = i := by omega
    have h16 : i ≤ 140737488355327 ∧ (i + 1) * 16 ≤ 140737488355328 := by omega
    rcases h3 with ⟨h00, rfl⟩ | ⟨h0', rfl⟩
    · subst h00
      simp [h0, hx]
      refine yieldK.walk (by simp; rfl) rfl rfl (by simp) (by simp) ?_
      simp [hA, hB, m1]
      refine roundK.mk (by simp; rfl) ?_
      simp
      refine ⟨l.length - 1, by omega, _, ?_, ⟨1, rfl, by omega, .inr ⟨by omega, rfl⟩⟩⟩
      have ht1 : l.take 1 = [x] := htk
      have hw1 : IntKind.i64.wrap 1 = 1 := rfl
      rw [hw1]
      exact Wk.rn [(200, 112)] rfl (by simp) (by simp) (by simp; rw [ht1]; rfl)
    · simp [hi, hi', hx]
      refine yieldK.walk (by simp; rfl) rfl rfl (by simp) (by simp) ?_
      simp [hA, hB, m1, hmin, h16]
      refine roundK.mk (by simp; rfl) ?_
      simp
      refine ⟨l.length - (i + 1), by omega, _, ?_, ⟨i + 1, rfl, by omega, .inr ⟨by omega, rfl⟩⟩⟩
      have ht2 : (l.take i).take i = l.take i := by rw [List.take_take, Nat.min_self]
      rw [hw]
      exact Wk.rn [(200, 112)] rfl (by simp) (by simp) (by simp; rw [htk, ht2])
  · obtain rfl : i = l.length := by omega
    rcases h3 with ⟨h4, _⟩ | ⟨h0', rfl⟩
    · omega
    simp
    refine rangeQ.mk (by simp; rfl) rfl rfl (by simp) ?_
    simp
    exact .own [(112, 1)] (by simp) (by simp) (by simp) (by simp) (by simp)
theorem AppendSeq_none : CallOk Tryz.prog 137 [.val (.slice none 0 0), .clo 132 [.rp 1 [[.rd 1 (strs [])]] 0 0]] [] (.val (.slice none 0 0)) [] := by
  refine .of_exec Tryz.func137 rfl (enters_137) rfl rfl (Nat.le_of_ble_eq_true rfl) (fun n _ => rfl) ?_
  simp
  refine WPg.rangeV (by simp) (by simp; rfl) (n := 16) Tryz.func132 rfl (enters_132) rfl (by simp) rfl fun tm fid dfs A B hA hB => ?_
  simp
  refine WPg.loopW (app_inv [] tm fid dfs A B) ⟨0, _, ?_, ⟨0, by simp, by simp, .inl ⟨rfl, rfl⟩⟩⟩ ?_
  · exact Wk.rn [] rfl (by simp) (by simp) (by simp)
  rintro m st ⟨i, h1, h2, h3⟩
  rcases h3 with ⟨h00, rfl⟩ | ⟨h0', rfl⟩
  · subst h00
    simp
    refine rangeQ.mk (by simp; rfl) rfl rfl (by simp) ?_
    simp
    exact .plain (by simp) (by simp)
  · simp at h2; omega
abbrev seqV (l : List ByteArray) : PV := .clo 132 [.rp 1 [[.rd 1 (strs l)]] 0 0]
theorem Collect_call {l : List ByteArray} (h0 : 0 < l.length) (hl : l.length ≤ 4294967296) : CallOk Tryz.prog 130 [seqV l] [] (.sl 1 1 0 l.length) [(1, strO l)] := by
  refine .of_exec Tryz.func130 rfl (enters_130) rfl rfl (Nat.le_of_ble_eq_true rfl) (fun n _ => rfl) ?_
  simp
  refine callK.own [] [] (AppendSeq_call h0 hl) (by simp) (by simp) (by simp) (by simp) (by simp) (by simp) (by simp) (by simp) (by simp) (by simp) ?_
  simp
  exact .own [(81, 1)] (by simp) (by simp) (by simp) (by simp) (by simp)
theorem Collect_none : CallOk Tryz.prog 130 [seqV []] [] (.val (.slice none 0 0)) [] := by
  refine .of_exec Tryz.func130 rfl (enters_130) rfl rfl (Nat.le_of_ble_eq_true rfl) (fun n _ => rfl) ?_
  simp
  refine .plain AppendSeq_none (by simp) (by simp) ?_
  simp
  exact .plain (by simp) (by simp)
theorem Sorted_none : CallOk Tryz.prog 113 [seqV []] [] (.val (.slice none 0 0)) [] := by
  refine .of_exec Tryz.func113 rfl (enters_113) rfl rfl (Nat.le_of_ble_eq_true rfl) (fun n _ => rfl) ?_
  have hs : CallOk Tryz.prog 131 [.val (.slice none 0 0)] [] (.tup []) [] := by
    refine ⟨enters_131, fun C vs hargs hob hsub hsm => ?_⟩
    obtain ⟨v, rfl, hv⟩ := reL1 hargs
    cases hv
    refine (Tryz.slices_Sort_string_none none 0 C.W).mono ?_
    rintro e W' ⟨he, rfl⟩
    exact ⟨_, C, he, rfl, .tup (cs := []) (vs := []) rfl (fun i h => by simp at h), hob, hsub, fun b hb _ => .inl hb, fun nm ob b h2 h3 => (by cases h2), fun nm ob b _ h => h, Fr.refl _ _⟩
  simp
  refine .plain Collect_none (by simp) (by simp) ?_
  simp
  refine .plain hs (by simp) (by simp) ?_
  simp
  exact .plain (by simp) (by simp)
theorem Sorted_call {l : List ByteArray} (h0 : 0 < l.length) (hl : l.length ≤ 4294967296) : CallOk Tryz.prog 113 [seqV l] [] (.sl 1 1 0 l.length) [(1, strO (sortB l))] := by
  refine .of_exec Tryz.func113 rfl (enters_113) rfl rfl (Nat.le_of_ble_eq_true rfl) (fun n _ => rfl) ?_
  simp
  refine callK.own [] [] (Collect_call h0 hl) (by simp) (by simp) (by simp) (by simp) (by simp) (by simp) (by simp) (by simp) (by simp) (by simp) ?_
  have hne : l ≠ [] := List.length_pos_iff.1 h0
  simp
  refine callK.own [] [(81, 0)] (Sort_call h0 (by omega)) (by simp) (by simp) (by simp) (by simp) (by simp) (by simp [hne]) (by simp) (by simp) (by simp) (by simp) ?_
  simp
  exact .own [(81, 1)] (by simp) (by simp) (by simp) (by simp) (by simp)
theorem strs_noRd (l : List ByteArray) : noRdRows (strs l) := by
  intro r hr c hc
  obtain ⟨x, _, rfl⟩ := List.mem_map.1 hr
  simp only [List.mem_singleton] at hc
  rw [hc]; trivial
theorem once_call {l : List ByteArray} (hl : l.length ≤ 4294967296) : CallOk Tryz.prog 89 [.rd 1 (strs l)] [] (.val (.bool (decide l.Nodup))) [] := by
  refine .of_exec Tryz.func89 rfl (enters_89) rfl rfl (Nat.le_of_ble_eq_true rfl) (fun n _ => rfl) ?_
  have hv : CallOk Tryz.prog 114 [.rd 1 (strs l)] [] (.clo 132 [.ref 1 1 0 0]) [(1, ⟨24, 1, [[.rd 1 (strs l)]], .cells⟩)] := by
    refine .of_exec Tryz.func114 rfl (enters_114) rfl rfl (Nat.le_of_ble_eq_true rfl) (fun n _ => rfl) ?_
    simp
    exact .own [(64, 1)] (by simp) (by simp) (by simp) (by simp) (by simp)
  simp
  refine callK.own [] [] hv (by simp) (by simp) (by simp) (by simp) (by simp) (by simp) (by simp) (by simp) (by simp) (by simp) ?_
  by_cases h00 : l = []
  · subst h00
    have hn := Sorted_none
    have hc : CallOk Tryz.prog 115 [.val (.slice none 0 0)] [] (.val (.slice none 0 0)) [] := by
      refine .of_exec Tryz.func115 rfl (enters_115) rfl rfl (Nat.le_of_ble_eq_true rfl) (fun n _ => rfl) ?_
      simp
      exact .plain (by simp) (by simp)
    simp
    refine .lent [81] hn (by simp) (by simp) (by simp) (by simp) (by simp) (by simp) ?_
    simp
    refine .plain hc (by simp) (by simp) ?_
    simp
    exact .plain (by simp) (by simp)
  · have h0 : 0 < l.length := List.length_pos_iff.2 h00
    have hsl := sortB_length l
    have hsn : sortB l ≠ [] := fun e => by rw [e] at hsl; simp at hsl; omega
    have hk : (compactB (sortB l)).length ≤ (sortB l).length := by
      rw [compactB, List.length_map, sortB, ofB_toB]
      have := Lib.compact_length_le ((ofB l).mergeSort fun x y => decide (x ≤ y))
      simpa using this
    have hc := Compact_call (l := sortB l) (by omega) (by omega) hk
    rw [hsl] at hc
    simp
    refine callK.own [81] [] (Sorted_call h0 hl) (by simp [strs_noRd]) (by simp [strs_noRd]) (by simp [strs_noRd]) (by simp [strs_noRd]) (by simp [strs_noRd]) (by simp [strs_noRd]) (by simp [strs_noRd]) (by simp [strs_noRd]) (by simp [strs_noRd]) (by simp [strs_noRd]) ?_
    simp
    refine callK.own [] [(89, 0)] hc (by simp) (by simp) (by simp) (by simp) (by simp) (by simp [hsn]) (by simp) (by simp) (by simp) (by simp) ?_
    have ho := once_iff l
    have hd : decide (((compactB (sortB l)).length : Int) = l.length) = decide l.Nodup := by
      rw [decide_eq_decide, ← ho]; omega
    simp
    exact .plain (by simp) (by simp [hd])
end Go.Proofs.YtbigcojlpcchiaaGreat.Sy
