/- Sy: strings.Builder, as contracts: its copyCheck, what is written, how many bytes, the text. -/
import Derived.Test.YtbigcojlpcchiaaGreatSyInt
import Derived.Test.YtbigcojlpcchiaaGreatSyTab
import Derived.Lib.Builder
import Derived.Lib.UnsafeStr
import Derived.Outline
import Derived.Shelf.RegionOpenPlain
namespace Go.Proofs.YtbigcojlpcchiaaGreat.Sy
open Go Go.RowKit
set_option linter.unusedVariables false
set_option linter.unusedSimpArgs false
theorem lies_self {P : Program} {T : TypeId} (hd : 0 < P.depth) (hs : P.cellsOf T ≠ 0) {n : Nat} (hn : 1 ≤ n) : liesAt P P.depth T n 0 T 1 = true := by
  obtain ⟨d, hd'⟩ : ∃ d, P.depth = d + 1 := ⟨P.depth - 1, by omega⟩
  have h1 : sameLayout P P.depth T T = true := by rw [hd']; simp [sameLayout]
  have h2 : ∀ (f : TypeId → Bool) (e : Nat), f T = true → rowAt P f (e + 1) T n 0 1 = true := by
    intro f e hf
    unfold rowAt
    simp [hs, hf, hn]
  have h3 : rowAt P (fun x => sameLayout P P.depth x T) P.depth T n 0 1 = true := by
    have := h2 (fun x => sameLayout P P.depth x T) d h1
    rw [← hd'] at this
    exact this
  have h4 : ∀ e, liesAt P (e + 1) T n 0 T 1 = true := by
    intro e
    unfold liesAt
    rw [h3]; rfl
  have := h4 d
  rwa [← hd'] at this
theorem sizeBuilder : (Tryz.prog.info? 150).map (fun i => i.size) = some 2 := by kernel_rfl
theorem cellsBuilder : Tryz.prog.cellsOf 150 = 2 := by kernel_rfl
theorem depth_pos : 0 < Tryz.prog.depth := of_decide_eq_true (by kernel_rfl)
set_option maxHeartbeats 1000000 in
set_option maxRecDepth 100000 in
theorem copyCheck_used (b : Nat) (w : World) (h0 : w.cell? ⟨b, 0, none⟩ = some (.pointer (some ⟨b, 0, none⟩))) :
    Calls Tryz.prog 133 #[.pointer (some ⟨b, 0, none⟩)] w fun e w' => e = .returned (.tuple #[]) ∧ w' = w := by
  obtain ⟨j, hj, _⟩ := Option.map_eq_some_iff.1 sizeBuilder
  go_enter Tryz.func133, Tryz.ntmps133
  go_wp2
  rw [Lib.run_neq_ptr_same w _ Tryz.underlying148 hj]
  go_wp2
  go_end0
  exact ⟨rfl, rfl⟩
set_option maxHeartbeats 1000000 in
set_option maxRecDepth 100000 in
theorem copyCheck_fresh (b n : Nat) (w : World) (h0 : w.cell? ⟨b, 0, none⟩ = some (.pointer none)) (hn : 2 ≤ n) (hsh : w.shape? b = some (150, n)) (hfz : w.frozen? ⟨b, 0, none⟩ = false) :
    Calls Tryz.prog 133 #[.pointer (some ⟨b, 0, none⟩)] w fun e w' => e = .returned (.tuple #[]) ∧ w' = w.setCell ⟨b, 0, none⟩ (.pointer (some ⟨b, 0, none⟩)) := by
  obtain ⟨j, hj, hjs⟩ := Option.map_eq_some_iff.1 sizeBuilder
  go_enter Tryz.func133, Tryz.ntmps133
  go_wp2
  rw [Lib.run_to_unsafe w ⟨b, 0, none⟩ Tryz.underlying148 Tryz.underlying172 hj (by rw [hjs]; decide) hsh (show 0 < n by omega)]
  simp only [Result.andThen]
  rw [Oper.upon_value]
  go_wp2
  rw [run_callFunc_extern Tryz.func140 (by kernel_rfl) (by kernel_rfl) (by kernel_rfl) (e := Extern.AbiNoEscape.same) (by kernel_rfl)]
  rw [Lib.run_noEscape]
  simp only [Result.andThen]
  rw [Oper.upon_value]
  go_wp2
  rw [Lib.run_from_unsafe w ⟨b, 0, none⟩ Tryz.underlying172 Tryz.underlying148 hj hsh (lies_self depth_pos (by rw [cellsBuilder]; decide) (by rw [cellsBuilder]; omega))]
  simp only [Result.andThen]
  rw [Oper.upon_value]
  go_wp2
  go_end0
  exact ⟨rfl, rfl⟩
set_option maxHeartbeats 1000000 in
set_option maxRecDepth 100000 in
theorem String_exact (b g cells cap : Nat) (l : List UInt8) (w : World) (h1 : w.cell? ⟨b, 1, none⟩ = some (.slice (some ⟨g, 0, none⟩) l.length cap)) (hg : w.shape? g = some (5, cells)) (hl : l.length ≤ cells) (h0 : l ≠ []) (hm : l.length ≤ maxLen) (hcap : cap ≠ 0)
    (hcell : ∀ j x, l[j]? = some x → w.cell? ⟨g, j, none⟩ = some (.int .u8 x.toNat)) :
    Calls Tryz.prog 118 #[.pointer (some ⟨b, 0, none⟩)] w fun e w' => e = .returned (.string ⟨l.toArray⟩) ∧ w' = w.drew.freeze ⟨g, 0, none⟩ l.length := by
  have c1 : w.drew.cell? ⟨b, 1, none⟩ = some (.slice (some ⟨g, 0, none⟩) l.length cap) := h1
  have hSD : (Builtin.unsafeSliceData_ #[92] 168 #[.slice (some ⟨g, 0, none⟩) l.length cap]).run Tryz.prog w.drew = .ok (.pointer (some ⟨g, 0, none⟩)) w.drew :=
    Lib.run_unsafeSliceData_row _ _ _ _ _ _ hcap
  have hUS : (Builtin.unsafeString_ #[168, 3] 9 #[.pointer (some ⟨g, 0, none⟩), .int .i64 l.length]).run Tryz.prog w.drew = .ok (.string ⟨l.toArray⟩) (w.drew.freeze ⟨g, 0, none⟩ l.length) := by
    refine Lib.run_unsafeString_row w.drew 168 3 9 5 Tryz.underlying168 (by kernel_rfl) g cells hg l h0 hl (by unfold maxLen at hm; omega) ?_
    intro j x hx
    have := hcell j x hx
    rw [show (⟨g, 0, none⟩ : Addr).add j = ⟨g, j, none⟩ by rw [add_plain, Nat.zero_add]]
    exact this
  have mixed : Tryz.prog.follows .mixedOrders = true := by kernel_rfl
  go_enter Tryz.func118, Tryz.ntmps118
  go_wp2
  go_region_o
  all_goals (go_wp2; go_ret; exact ⟨rfl, rfl⟩)
theorem setCell_row {w : World} {b : Nat} {cur : Array Value} {T : TypeId} {fz : Nat × Nat} (h : w.heap[b]? = some (.cells cur T fz)) (i : Nat) (v : Value) : w.setCell ⟨b, i, none⟩ v = w.setRow b (cur.setIfInBounds i v) := by
  have hlt := (Array.getElem?_eq_some_iff.1 h).1
  have hv := (Array.getElem?_eq_some_iff.1 h).2
  unfold World.setCell World.setRow
  congr 1
  apply Array.ext (by simp)
  intro k h1 h2
  rw [Array.getElem_modify, Array.getElem_modify]
  by_cases e : b = k
  · subst e; simp [hv]
  · simp [e]
/-- A builder's block: where its buffer is, the bytes there. -/
abbrev bldO (a x : PV) : Ob := ⟨150, 2, [[a, x]], .cells⟩
abbrev bytO (s : ByteArray) : Ob := ⟨5, 1, brow s, .cells⟩
theorem ref_re {C : Cx} {nm sz row off : Nat} {v : Value} (h : Re C (.ref nm sz row off) v) : ∃ b, C.ρ nm = some b ∧ v = .pointer (some ⟨b, row * sz + off, none⟩) := by
  cases h with
  | ref hb => exact ⟨_, hb, rfl⟩
/-- What lies in a builder's block. -/
theorem bld_at {C : Cx} {a x : PV} {b : Nat} (h : ObOk C 0 (bldO a x)) (hb : C.ρ 0 = some b) : ∃ cur : Array Value, ∃ u v, ¬ C.S b ∧ C.W.heap[b]? = some (.cells cur 150 (0, 0)) ∧ 2 ≤ cur.size ∧ cur[0]? = some u ∧ cur[1]? = some v ∧ Re C a u ∧ Re C x v := by
  rcases (h.cells rfl).2 with ⟨h1, _⟩ | ⟨b', cur, h1, h2, h3, h4⟩
  · rw [hb] at h1; cases h1
  · rw [hb] at h1; cases h1
    have hl := h4.1
    simp only [bldO, List.flatten_cons, List.flatten_nil, List.append_nil, List.length_cons, List.length_nil, List.length_take, Array.length_toList] at hl
    have hsz : 2 ≤ cur.size := by omega
    have e0 := h4.2 0 (by simp) (by simp; omega)
    have e1 := h4.2 1 (by simp) (by simp; omega)
    simp only [bldO, List.flatten_cons, List.flatten_nil, List.append_nil, List.getElem_cons_zero, List.getElem_cons_succ, List.getElem_take, Array.getElem_toList] at e0 e1
    exact ⟨cur, _, _, h2, h3, hsz, Array.getElem?_eq_getElem (by omega), Array.getElem?_eq_getElem (by omega), e0, e1⟩
theorem copyCheck_again {n : Nat} {s : ByteArray} : CallOk Tryz.prog 133 [.ref 0 2 0 0] [(0, bldO (.ref 0 2 0 0) (.sl 1 1 0 n)), (1, bytO s)] (.tup []) [(0, bldO (.ref 0 2 0 0) (.sl 1 1 0 n)), (1, bytO s)] := by
  refine ⟨enters_133, fun C vs hargs hob hsub hsm => ?_⟩
  obtain ⟨v, rfl, hv⟩ := reL1 hargs
  obtain ⟨b, hb, rfl⟩ := ref_re hv
  obtain ⟨cur, u, v, _, hc, hsz, c0, c1, hu, hx⟩ := bld_at (hob.obs 0 _ rfl) hb
  obtain ⟨b', hb', rfl⟩ := ref_re hu
  rw [hb] at hb'; cases hb'
  refine (copyCheck_used b C.W (by rw [Lib.cell_of_heap hc]; exact c0)).mono ?_
  rintro e W' ⟨he, rfl⟩
  exact ⟨_, C, he, rfl, .tup (cs := []) (vs := []) rfl (fun i h => by simp at h), hob, hsub, fun b hb _ => .inl hb, fun nm ob b h2 h3 => .inl ⟨nm, ob, h2, h3⟩, fun nm ob b _ h => h, Fr.refl _ _⟩
/-- A block of one's own gets other cells. -/
theorem postOk_row {C : Cx} {b : Nat} {cur cur' : Array Value} {T : TypeId} {ob ob' : Ob} (hsub : ∀ b, C.S b → b < C.W.heap.size) (hb : C.ρ 0 = some b) (hS : ¬ C.S b) (hc : C.W.heap[b]? = some (.cells cur T (0, 0))) (hs : cur'.size = cur.size) (hT : ob'.T = T) (hk : ob'.k = .cells) (hrow : RowsOk ob'.sz ob'.rows)
    (hre : ReL ⟨C.W.setRow b cur', C.ρ, C.S⟩ ob'.rows.flatten (cur'.toList.take ob'.rows.flatten.length)) : PostOk C [(0, ob)] ⟨C.W.setRow b cur', C.ρ, C.S⟩ [(0, ob')] := by
  have hlt := (Array.getElem?_eq_some_iff.1 hc).1
  refine ⟨⟨fun nm o h => ?_, fun nm nm' b o o' h h' _ _ => ?_⟩, fun k hk => ?_, fun k hk _ => .inl hk, fun nm o k h1 h2 => .inl ⟨0, ob, rfl, ?_⟩, fun _ _ _ _ h => h, ⟨rfl, rfl, rfl, Nat.le_refl _, ?_, fun k hk hn => ?_, shp_row hc hs⟩⟩
  · by_cases e : 0 = nm
    · subst e
      simp only [lookO, if_true] at h
      cases h
      exact .of_cells hk hrow (.inr ⟨b, cur', hb, hS, hT ▸ setRow_heap C.W b cur cur' _ _ hc, hre⟩)
    · simp [lookO, e] at h
  · by_cases e : 0 = nm
    · by_cases e' : 0 = nm'
      · omega
      · simp [lookO, e'] at h'
    · simp [lookO, e] at h
  · show k < (C.W.setRow b cur').heap.size
    rw [size_setRow]; exact hsub k hk
  · by_cases e : 0 = nm
    · subst e; exact h2
    · simp [lookO, e] at h1
  · show _ ≤ (C.W.setRow b cur').heap.size
    rw [size_setRow]; exact Nat.le_refl _
  · exact setRow_other C.W b k cur' (fun e => hn ⟨0, ob, rfl, by rw [hb, e]⟩)
theorem copyCheck_first : CallOk Tryz.prog 133 [.ref 0 2 0 0] [(0, bldO (.val (.pointer none)) (.val (.slice none 0 0)))] (.tup []) [(0, bldO (.ref 0 2 0 0) (.val (.slice none 0 0)))] := by
  refine ⟨enters_133, fun C vs hargs hob hsub hsm => ?_⟩
  obtain ⟨v, rfl, hv⟩ := reL1 hargs
  obtain ⟨b, hb, rfl⟩ := ref_re hv
  obtain ⟨cur, u, v, hS, hc, hsz, c0, c1, hu, hx⟩ := bld_at (hob.obs 0 _ rfl) hb
  cases hu; cases hx
  refine (copyCheck_fresh b cur.size C.W (by rw [Lib.cell_of_heap hc]; exact c0) hsz (by simp [World.shape?, hc]) (Lib.frozen_of_heap hc 0)).mono ?_
  rintro e W' ⟨he, rfl⟩
  rw [setCell_row hc]
  refine ⟨_, ⟨C.W.setRow b (cur.setIfInBounds 0 (.pointer (some ⟨b, 0, none⟩))), C.ρ, C.S⟩, he, rfl, .tup (cs := []) (vs := []) rfl (fun i h => by simp at h), postOk_row hsub hb hS hc (by simp) rfl rfl (by simp [RowsOk, RowOk, oneP]) ?_⟩
  have e : (cur.setIfInBounds 0 (.pointer (some ⟨b, 0, none⟩))).toList.take 2 = [.pointer (some ⟨b, 0, none⟩), .slice none 0 0] := by
    apply List.ext_getElem?
    intro i
    rw [List.getElem?_take]
    by_cases h2 : i < 2
    · rw [if_pos h2, Array.getElem?_toList]
      match i, h2 with
      | 0, _ => rw [Array.getElem?_setIfInBounds_self_of_lt (by omega)]; rfl
      | 1, _ => rw [Array.getElem?_setIfInBounds_ne (by omega), c1]; rfl
    · rw [if_neg h2]
      match i, h2 with
      | i + 2, _ => rfl
  show ReL _ [.ref 0 2 0 0, .val (.slice none 0 0)] _
  rw [show ((bldO (PV.ref 0 2 0 0) (PV.val (Value.slice none 0 0))).rows.flatten.length) = 2 from rfl, e]
  exact .cons (Re.ref (sz := 2) (row := 0) (off := 0) hb) (.cons (.val _) (.nil _))
theorem freeze_other (w : World) (g n k : Nat) (h : k ≠ g) : (w.freeze ⟨g, 0, none⟩ n).heap[k]? = w.heap[k]? := by
  unfold World.freeze
  split
  · rfl
  · rw [Array.getElem?_modify, if_neg (fun e => h e.symm)]
theorem freeze_size (w : World) (g n : Nat) : (w.freeze ⟨g, 0, none⟩ n).heap.size = w.heap.size := by
  unfold World.freeze
  split
  · rfl
  · simp
theorem freeze_shp (w : World) (g n : Nat) : Shp w (w.freeze ⟨g, 0, none⟩ n) := by
  intro b cur T fz h
  by_cases e : b = g
  · subst e
    unfold World.freeze
    split
    · exact ⟨cur, fz, h, rfl⟩
    · obtain ⟨lo, hi⟩ := fz
      refine ⟨cur, (if (lo == hi) = true then (0, 0 + n) else (min lo 0, max hi (0 + n))), ?_, rfl⟩
      simp only [Array.getElem?_modify, if_true, h, Option.map_some]
  · exact ⟨cur, fz, by rw [freeze_other w g n b e]; exact h, rfl⟩
/-- The text that was written: its bytes are the builder's no more. -/
theorem String_call {s : ByteArray} (h0 : 0 < s.size) (hm : s.size ≤ maxLen) : CallOk Tryz.prog 118 [.ref 0 2 0 0] [(0, bldO (.ref 0 2 0 0) (.sl 1 1 0 s.size)), (1, bytO s)] (.val (.string s)) [] := by
  refine ⟨enters_118, fun C vs hargs hob hsub hsm => ?_⟩
  obtain ⟨v, rfl, hv⟩ := reL1 hargs
  obtain ⟨b, hb, rfl⟩ := ref_re hv
  obtain ⟨cur, u, v, hS, hc, hsz, c0, c1, hu, hx⟩ := bld_at (hob.obs 0 _ rfl) hb
  obtain ⟨g, cap, curg, Tg, fg, hg, hgc, hle, hmax, hfit, rfl⟩ : ∃ g cap curg Tg fg, C.ρ 1 = some g ∧ C.W.heap[g]? = some (.cells curg Tg fg) ∧ s.size ≤ cap ∧ cap ≤ maxLen ∧ cap ≤ curg.size ∧ v = .slice (some ⟨g, 0, none⟩) s.size cap := by
    generalize hn : s.size = n at hx
    cases hx with
    | sl hb hc h2 h3 h4 =>
      rename_i cp bb cc tt ff
      exact ⟨bb, cp, cc, tt, ff, hb, hc, h2, h3, by omega, by rw [Nat.zero_mul]⟩
    | sl0 => omega
  have ho1 := hob.obs 1 _ rfl
  rcases (ho1.cells rfl).2 with ⟨h2, _⟩ | ⟨g', curg', h2, hSg, h4, h5⟩
  · rw [hg] at h2; cases h2
  rw [hg] at h2; cases h2
  rw [hgc] at h4; cases h4
  simp only at h5
  have hbf : (brow s).flatten.length = s.size := by rw [brow_flatten]; simp [bytesI]
  rw [hbf] at h5
  have hdl : s.data.toList.length = s.size := by rw [Array.length_toList]; rfl
  have hcell : ∀ j x, s.data.toList[j]? = some x → C.W.cell? ⟨g, j, none⟩ = some (.int .u8 x.toNat) := by
    intro j x hj
    have hjl : j < s.data.toList.length := (List.getElem?_eq_some_iff.1 hj).1
    rw [Lib.cell_of_heap hgc]
    have hlen5 := h5.1
    rw [hbf, List.length_take, Array.length_toList] at hlen5
    have h6 := h5.2 j (by rw [hbf]; omega) (by rw [List.length_take, Array.length_toList]; omega)
    have e1 : (brow s).flatten[j]'(by rw [hbf]; omega) = .val (.int .u8 x.toNat) := by
      have : (brow s).flatten[j]? = some (.val (.int .u8 x.toNat)) := by
        rw [brow_flatten, List.getElem?_map, bytesI, List.getElem?_map, hj]; rfl
      rw [List.getElem?_eq_getElem (by rw [hbf]; omega)] at this
      exact Option.some.inj this
    rw [e1, List.getElem_take, Array.getElem_toList] at h6
    rw [Array.getElem?_eq_getElem (by omega)]
    generalize curg[j]'(by omega) = z at h6
    cases h6; rfl
  have hre := String_exact b g curg.size cap s.data.toList C.W (by rw [Lib.cell_of_heap hc, c1, hdl]) (by simp [World.shape?, hgc]) (by omega) (by intro e; rw [e] at hdl; simp at hdl; omega) (by omega) (by omega) hcell
  refine hre.mono ?_
  rintro e W' ⟨he, rfl⟩
  rw [hdl]
  refine ⟨.string s, ⟨C.W.drew.freeze ⟨g, 0, none⟩ s.size, C.ρ, C.S⟩, he, rfl, .val _, ⟨fun nm ob h => (by cases h), fun nm nm' b ob ob' h => (by cases h)⟩, fun k hk => ?_, fun k hk _ => .inl hk, fun nm ob k h => (by cases h), fun _ _ _ _ h => h, ?_⟩
  · show k < (C.W.drew.freeze ⟨g, 0, none⟩ s.size).heap.size
    rw [freeze_size]; exact hsub k hk
  · refine ⟨?_, ?_, ?_, ?_, ?_, fun k hk hn => ?_, ?_⟩
    · show (C.W.drew.freeze _ _).os = _
      unfold World.freeze; split <;> rfl
    · show (C.W.drew.freeze _ _).tape = _
      unfold World.freeze; split <;> rfl
    · show (C.W.drew.freeze _ _).output = _
      unfold World.freeze; split <;> rfl
    · show C.W.drawn ≤ (C.W.drew.freeze _ _).drawn
      unfold World.freeze; split <;> exact Nat.le_succ _
    · show _ ≤ (C.W.drew.freeze _ _).heap.size
      rw [freeze_size]; exact Nat.le_refl _
    · exact freeze_other C.W.drew g s.size k (fun e => hn ⟨1, _, rfl, by rw [hg, e]⟩)
    · exact freeze_shp C.W.drew g s.size
end Go.Proofs.YtbigcojlpcchiaaGreat.Sy
