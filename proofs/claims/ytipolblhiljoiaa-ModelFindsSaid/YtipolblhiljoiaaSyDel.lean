/- Sy: slices.Delete of one document, in place. -/
import Derived.Test.YtipolblhiljoiaaSyInts
import Derived.Test.YtipolblhiljoiaaSyTab
import Derived.Deep.RegionLaw
import Derived.Lib.SlicesDelete
import Derived.Lib.SliceRun
import Derived.Shelf.RegionOpenPlain
import Derived.WalkKit
import Derived.Lib.Walk
namespace Go.Proofs.Ytipolblhiljoiaa.Sy
open Go Go.Shelf Go.RowKit Go.Lib Go.Sort
set_option linter.unusedVariables false
set_option linter.unusedSimpArgs false
theorem run_clear_rows {P : Program} (w : World) (t e ty : TypeId) (z : Value) (k : Nat) (ht : P.underlying t = some (.slice e)) (hv : ∀ w, (zeroValue e).run P w = .ok z w) (hz : z.cells.size = k) (h1 : ∀ v ∈ z.cells.toList, v.oneCell' = true) (b o n c : Nat) (hn : 0 < n) (hk : 0 < k)
    (hc : ∀ j, j < n * k → (w.cell? ⟨b, o + j, none⟩).isSome = true) (hf : ∀ j, j < n * k → w.frozen? ⟨b, o + j, none⟩ = false) :
    (Builtin.clear_ #[t] ty #[.slice (some ⟨b, o, none⟩) n c]).run P w = .ok (.tuple #[]) (w.setCells b o (Builtin.zeroCells z.cells n).toList) := by
  have hl : (Builtin.zeroCells z.cells n).toList.length = n * k := by simp [Builtin.zeroCells, hz]
  have hone : ∀ v ∈ (Builtin.zeroCells z.cells n).toList, v.oneCell' = true := by
    intro v hv'
    simp only [Builtin.zeroCells, Array.toList_map, List.mem_map] at hv'
    obtain ⟨i, hi, rfl⟩ := hv'
    have hpos : 0 < z.cells.size := by omega
    have hlt : i % z.cells.size < z.cells.size := Nat.mod_lt _ hpos
    refine h1 _ ?_
    rw [getElem!_pos z.cells _ hlt]
    exact Array.getElem_mem_toList hlt
  have hst := run_storeCells_cells (P := P) b o (Builtin.zeroCells z.cells n).toList 0 w (by simpa [hl] using hc) (by simpa [hl] using hf) hone
  simp only [Nat.add_zero] at hst
  obtain ⟨m, rfl⟩ : ∃ m, n = m + 1 := ⟨n - 1, by omega⟩
  simp [Builtin.clear_, run_underlying ht, hv, hst]
set_option maxHeartbeats 4000000 in
set_option maxRecDepth 1000000 in
theorem delete_raw (b n cap k : Nat) (w : World) (news : List Value) (hk : k < n) (hcap : n ≤ cap) (hm : cap ≤ 9223372036854775807) (hl : news.length = (n - (k + 1)) * 2)
    (hn : ∀ j u, news[j]? = some u → w.cell? ⟨b, (k + 1) * 2 + j, none⟩ = some u) (h1 : ∀ u ∈ news, u.oneCell' = true)
    (hc : ∀ j, j < n * 2 → (w.cell? ⟨b, j, none⟩).isSome = true ∧ w.frozen? ⟨b, j, none⟩ = false) :
    Calls Try.prog 64 #[.slice (some ⟨b, 0, none⟩) n cap, .int .i64 k, .int .i64 (k + 1)] w fun e w' => e = .returned (.slice (some ⟨b, 0, none⟩) (n - 1) cap) ∧
      ∃ q zs, zs.length = 2 ∧ w' = ((Sort.ahead w q).setCells b (k * 2) news).setCells b ((n - 1) * 2) zs := by
  have mixed := follows_mixed
  obtain ⟨i0, hi0, hz0⟩ := Option.map_eq_some_iff.1 (tsize_41)
  obtain ⟨A, hA, hsrc⟩ : ∃ A : Addr, (if cap = k + 1 then some (⟨b, 0, none⟩ : Addr) else some ⟨b, (k + 1) * 2, none⟩) = some A ∧ Hid (∀ t u, news[t]? = some u → w.drew.cell? (A.add t) = some u) := by
    by_cases h : cap = k + 1
    · refine ⟨⟨b, 0, none⟩, by simp [h], fun t u hu => ?_⟩
      have h0 : news.length = 0 := by rw [hl]; omega
      rw [List.length_eq_zero_iff.1 h0] at hu
      simp at hu
    · refine ⟨⟨b, (k + 1) * 2, none⟩, by simp [h], fun t u hu => ?_⟩
      rw [Addr.add_lit]
      exact hn t u hu
  have s1 : Hid (news.length = (n - (k + 1)) * 2) := hl
  have s2 : Hid (∀ u ∈ news, u.oneCell' = true) := h1
  have s3 : Hid (∀ t, t < news.length → (w.drew.cell? ⟨b, 0 + k * 2 + t, none⟩).isSome = true ∧ w.drew.frozen? ⟨b, 0 + k * 2 + t, none⟩ = false) := by
    intro t ht
    rw [hl] at ht
    have := hc (0 + k * 2 + t) (by omega)
    exact this
  obtain ⟨W1, hW1⟩ : ∃ W1, W1 = w.drew.setCells b (0 + k * 2) news := ⟨_, rfl⟩
  have hW : Hid (W1 = w.drew.setCells b (0 + k * 2) news) := hW1
  clear hW1
  have hcW : ∀ j, j < n * 2 → (W1.cell? ⟨b, j, none⟩).isSome = true ∧ W1.frozen? ⟨b, j, none⟩ = false := fun j hj => by
    rw [hW.out]
    refine ⟨?_, by rw [World.frozen?_setCells]; exact (hc j hj).2⟩
    by_cases hin : 0 + k * 2 ≤ j ∧ j < 0 + k * 2 + news.length
    · have := World.cell?_setCells_in b news (0 + k * 2) w.drew (fun t ht => by rw [hl] at ht; exact (hc (0 + k * 2 + t) (by omega)).1) (j - (0 + k * 2)) (by omega)
      rw [show 0 + k * 2 + (j - (0 + k * 2)) = j by omega] at this
      rw [this]; rfl
    · rw [World.cell?_setCells_out b news (0 + k * 2) w.drew ⟨b, j, none⟩ (fun _ _ => by show j < 0 + k * 2 ∨ 0 + k * 2 + news.length ≤ j; omega)]
      exact (hc j hj).1
  have hcl : ∀ ty, (Builtin.clear_ #[25] ty #[.slice (some ⟨b, (n - 1) * 2, none⟩) (n - (n - 1)) (cap - (n - 1))]).run Try.prog W1 = .ok (.tuple #[]) (W1.setCells b ((n - 1) * 2) (Builtin.zeroCells (Value.agg #[.int .i64 0, .slice none 0 0]).cells (n - (n - 1))).toList) := fun ty =>
    run_clear_rows W1 _ _ ty _ 2 Try.underlying25 Try.zeroValue41 rfl (by simp [Value.cells]) b ((n - 1) * 2) (n - (n - 1)) (cap - (n - 1)) (by omega) (by omega) (fun j hj => (hcW _ (by omega)).1) (fun j hj => (hcW _ (by omega)).2)
  have hzl : (Builtin.zeroCells (Value.agg #[.int .i64 0, .slice none 0 0]).cells (n - (n - 1))).toList.length = 2 := by
    have e : n - (n - 1) = 1 := by omega
    simp [Builtin.zeroCells, Value.cells, e]
  generalize (Builtin.zeroCells (Value.agg #[.int .i64 0, .slice none 0 0]).cells (n - (n - 1))).toList = zs at hcl hzl
  clear hcW
  have hnc : ¬ cap = n - 1 := by omega
  have hn1 : ((n - 1 : Nat) : Int) ≤ (n : Int) := by omega
  have hic : k ≤ cap := by omega
  have hjc : k + 1 ≤ cap := by omega
  have hjn : k + 1 ≤ n := by omega
  have hj0 : (0 : Int) ≤ (k : Int) + 1 := by omega
  have hj1 : (k : Int) + 1 ≤ (n : Int) := by omega
  have hlen : k + (n - (k + 1)) = n - 1 := by omega
  go_enter Try.func64, Try.ntmps64
  go_wp2_with fail
  go_region_law_o (refine step_append_room rfl (.tmp 22) (.tmp 25) 25 rfl 41 i0 2 Try.underlying25 hi0 hz0 b 0 k cap (by simp [Act.eval, Act.put]) A (n - (k + 1)) (cap - (k + 1)) news (by simp [Act.eval, Act.put, hA]) s1.out hsrc.out s2.out (by omega) s3.out ?_; rw [← hW.out])
  go_wp2
  go_ret
  refine ⟨rfl, 1, zs, hzl, ?_⟩
  rw [hW.out, Nat.zero_add]
  rfl
end Go.Proofs.Ytipolblhiljoiaa.Sy
