/- Sy: strings.Builder's grow, exactly: a new buffer of whatever bytes. -/
import Derived.Test.YtbigcojlpcchiaaGreatSyBlw
import Derived.Lib.MakeNoZero
namespace Go.Proofs.YtbigcojlpcchiaaGreat.Sy
open Go Go.RowKit
set_option linter.unusedVariables false
set_option linter.unusedSimpArgs false
theorem digits_one : ∀ (n t : Nat) (acc : Array Value), (∀ v ∈ acc.toList, v.oneCell' = true) → ∀ v ∈ (Extern.BytealgMakeNoZero.digits n t acc).toList, v.oneCell' = true
  | 0, _, _, h => h
  | n + 1, t, acc, h => by
    rw [Extern.BytealgMakeNoZero.digits]
    refine digits_one n _ _ fun v hv => ?_
    rw [Array.toList_push] at hv
    rcases List.mem_append.1 hv with h' | h'
    · exact h v h'
    · rw [List.mem_singleton.1 h']; rfl
/-- The kit's law of the entry, and what lies in the cells. -/
theorem run_mnz {P : Program} (w : World) (ps : Array TypeId) (t e : TypeId) (ht : P.underlying t = some (.slice e)) (n : Nat) (hn : n ≤ 281474976710656) :
    ∃ cs : Array Value, (Extern.BytealgMakeNoZero.makeNoZero ps #[t] #[.int .i64 n]).run P w = .ok (.slice (some ⟨w.heap.size, 0, none⟩) n cs.size) (w.drew.drew.alloc (.cells cs e)) ∧ n ≤ cs.size ∧ (n ≤ maxLen → cs.size ≤ maxLen) ∧ (∀ v ∈ cs.toList, v.oneCell' = true) := by
  obtain ⟨cs, h1, h2, h3⟩ := Lib.run_makeNoZero (P := P) w ps t e ht n hn
  have hdef : Extern.BytealgMakeNoZero.makeNoZero ps #[t] #[.int .i64 n] =
      (do
        let .slice elem ← underlying t | stuck "bytealg.MakeNoZero: slice type expected"
        if (n : Int) < 0 || (n : Int) > 2 ^ 48 then runtimePanic (.error "makeslice: len out of range")
        let cap ← choose (.appendCap (n : Int).toNat 0 elem)
        askRoom cap
        let bytes ← choose (.extern "internal/bytealg.MakeNoZero.bytes" 0)
        let a ← newRow elem (Extern.BytealgMakeNoZero.digits cap bytes #[])
        pure (.slice (some a) (n : Int).toNat cap)) := rfl
  have h4 : (Extern.BytealgMakeNoZero.makeNoZero ps #[t] #[.int .i64 n]).run P w = .ok (.slice (some ⟨w.heap.size, 0, none⟩) n (grownCap w n 0 e)) (w.drew.drew.alloc (.cells (Extern.BytealgMakeNoZero.digits (grownCap w n 0 e) ((Question.extern "internal/bytealg.MakeNoZero.bytes" 0).cut (w.tape (w.drawn + 1) (.extern "internal/bytealg.MakeNoZero.bytes" 0))) #[]) e)) := by
    rw [hdef]
    have h1 : ¬ (n : Int) < 0 := by omega
    have h2 : ¬ (281474976710656 : Int) < (n : Int) := by omega
    simp [run_underlying ht, h1, h2, Question.forced, newRow, Lib.size_digits, grownCap]
  refine ⟨cs, h1, h2, h3, ?_⟩
  rw [h1] at h4
  have e1 : (w.drew.drew.alloc (.cells cs e)) = (w.drew.drew.alloc (.cells (Extern.BytealgMakeNoZero.digits (grownCap w n 0 e) ((Question.extern "internal/bytealg.MakeNoZero.bytes" 0).cut (w.tape (w.drawn + 1) (.extern "internal/bytealg.MakeNoZero.bytes" 0))) #[]) e)) := by injection h4
  have e2 := congrArg (fun W : World => W.heap[w.heap.size]?) e1
  have e3 : ∀ xs : Array Value, (w.drew.drew.alloc (.cells xs e)).heap[w.heap.size]? = some (.cells xs e (0, 0)) := fun xs => heap_alloc_new w.drew.drew _
  simp only [e3] at e2
  injection e2 with e2
  injection e2 with e2
  rw [e2]
  exact digits_one _ _ _ (by simp)
theorem sliceBytes : Tryz.prog.underlying 92 = some (.slice 5) := Tryz.underlying92
theorem sizeU8 : (Tryz.prog.info? 5).map (fun i => i.size) = some 1 := by kernel_rfl
/-- What a builder without a buffer gets. -/
def Grown (w : World) (b n : Nat) (cur : Array Value) (w' : World) : Prop := ∃ cs : Array Value, n ≤ cs.size ∧ cs.size ≤ maxLen ∧ (∀ v ∈ cs.toList, v.oneCell' = true) ∧ w'.heap.size = w.heap.size + 1 ∧ w'.heap[w.heap.size]? = some (.cells cs 5 (0, 0)) ∧
  w'.heap[b]? = some (.cells (cur.setIfInBounds 1 (.slice (some ⟨w.heap.size, 0, none⟩) 0 cs.size)) 150 (0, 0)) ∧ (∀ k, k < w.heap.size → k ≠ b → w'.heap[k]? = w.heap[k]?) ∧ w'.os = w.os ∧ w'.tape = w.tape ∧ w'.output = w.output ∧ w.drawn ≤ w'.drawn
theorem grown_mk {w : World} {b n : Nat} {cur cs : Array Value} (hc : w.heap[b]? = some (.cells cur 150 (0, 0))) (h1 : n ≤ cs.size) (h2 : cs.size ≤ maxLen) (h3 : ∀ v ∈ cs.toList, v.oneCell' = true) :
    Grown w b n cur ((w.setCell ⟨b, 1, none⟩ (.slice (some ⟨w.heap.size, 0, none⟩) 0 cs.size)).alloc (.cells cs 5)).drew.drew.drew := by
  have hlt := (Array.getElem?_eq_some_iff.1 hc).1
  rw [setCell_row hc]
  have hsz : (w.setRow b (cur.setIfInBounds 1 (.slice (some ⟨w.heap.size, 0, none⟩) 0 cs.size))).heap.size = w.heap.size := size_setRow _ _ _
  generalize hW : w.setRow b (cur.setIfInBounds 1 (.slice (some ⟨w.heap.size, 0, none⟩) 0 cs.size)) = W at hsz
  have hWb : W.heap[b]? = some (.cells (cur.setIfInBounds 1 (.slice (some ⟨w.heap.size, 0, none⟩) 0 cs.size)) 150 (0, 0)) := by rw [← hW]; exact setRow_heap w b cur _ _ _ hc
  have hWk : ∀ k, k ≠ b → W.heap[k]? = w.heap[k]? := fun k hk => by rw [← hW]; exact setRow_other _ _ _ _ hk
  have hWr : W.os = w.os ∧ W.tape = w.tape ∧ W.output = w.output ∧ W.drawn = w.drawn := by rw [← hW]; exact ⟨rfl, rfl, rfl, rfl⟩
  refine ⟨cs, h1, h2, h3, ?_, ?_, ?_, fun k hk hn => ?_, hWr.1, hWr.2.1, hWr.2.2.1, ?_⟩
  · rw [← hsz]; exact Array.size_push _
  · rw [← hsz]; exact heap_alloc_new W _
  · exact (heap_alloc_old W _ (by omega)).trans hWb
  · exact (heap_alloc_old W _ (by omega)).trans (hWk k hn)
  · show w.drawn ≤ W.drawn + 1 + 1 + 1
    omega
set_option maxHeartbeats 4000000 in
set_option maxRecDepth 100000 in
theorem grow_exact (b n : Nat) (cur : Array Value) (w : World) (hc : w.heap[b]? = some (.cells cur 150 (0, 0))) (h1 : cur[1]? = some (.slice none 0 0)) (hn : n ≤ 140737488355328) :
    Calls Tryz.prog 134 #[.pointer (some ⟨b, 0, none⟩), .int .i64 n] w fun e w' => e = .returned (.tuple #[]) ∧ Grown w b n cur w' := by
  obtain ⟨cs, hrun, hle, hmax, hone⟩ := run_mnz (P := Tryz.prog) w.drew #[3] 92 5 sliceBytes n (by omega)
  have hlt := (Array.getElem?_eq_some_iff.1 hc).1
  have hw : IntKind.i64.wrap (IntKind.i64.wrap 0 + (n : Int)) = n := by
    rw [IntKind.wrap_i64, IntKind.wrap_i64]
    omega
  have hcall : (callFunc 141 #[.int .i64 (IntKind.i64.wrap (IntKind.i64.wrap 0 + (n : Int)))]).run Tryz.prog w.drew = .ok (.value (.slice (some ⟨w.drew.heap.size, 0, none⟩) n cs.size)) (w.drew.drew.drew.alloc (.cells cs 5)) := by
    rw [hw, run_callFunc_extern Tryz.func141 (by kernel_rfl) (by kernel_rfl) (by kernel_rfl) (e := Extern.BytealgMakeNoZero.makeNoZero #[3] #[92]) (by kernel_rfl), hrun]
    rfl
  have c1 : w.drew.cell? ⟨b, 1, none⟩ = some (.slice none 0 0) := by
    have : w.drew.heap[b]? = _ := hc
    rw [Lib.cell_of_heap this]; exact h1
  have c2 : (w.alloc (.cells cs 5)).cell? ⟨b, 1, none⟩ = some (.slice none 0 0) := by
    have : (w.alloc (.cells cs 5)).heap[b]? = _ := (heap_alloc_old w _ hlt).trans hc
    rw [Lib.cell_of_heap this]; exact h1
  have f2 : (w.alloc (.cells cs 5)).frozen? ⟨b, 1, none⟩ = false := Lib.frozen_of_heap ((heap_alloc_old w _ hlt).trans hc) 1
  have hcopy : ∀ W : World, (Builtin.copy_ #[92, 92] 3 #[.slice (some ⟨w.heap.size, 0, none⟩) 0 cs.size, .slice none 0 0]).run Tryz.prog W = .ok (goInt 0) W :=
    fun W => run_copy_none W 92 92 3 5 _ _ 0 cs.size 0 0 sliceBytes (by kernel_rfl) rfl
  clear hw
  have mixed : Tryz.prog.follows .mixedOrders = true := by kernel_rfl
  have hfin := grown_mk (n := n) hc hle (hmax (by unfold maxLen; omega)) hone
  go_enter Tryz.func134, Tryz.ntmps134
  go_wp2
  go_region_o
  all_goals (go_wp2; go_end0; exact ⟨rfl, hfin⟩)
end Go.Proofs.YtbigcojlpcchiaaGreat.Sy
