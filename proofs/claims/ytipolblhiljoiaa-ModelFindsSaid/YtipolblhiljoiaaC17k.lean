/- Layer 17: slices.Delete of a document, as a contract. -/
import Derived.Test.YtipolblhiljoiaaC17q
import Derived.Test.YtipolblhiljoiaaSyDel
import Derived.Laws.Rows
namespace Go.Proofs.Ytipolblhiljoiaa.Sy
open Go Go.RowKit
set_option linter.unusedVariables false
set_option linter.unusedSimpArgs false
/-- What a run of stores makes of a row. -/
theorem setCells_row {b : Nat} {T : TypeId} : ∀ (vs : List Value) (o : Nat) (w : World) (cur : Array Value), w.heap[b]? = some (.cells cur T (0, 0)) → o + vs.length ≤ cur.size →
    ∃ cur' : Array Value, (w.setCells b o vs).heap[b]? = some (.cells cur' T (0, 0)) ∧ cur'.size = cur.size ∧ cur'.toList = cur.toList.take o ++ vs ++ cur.toList.drop (o + vs.length)
  | [], o, w, cur, h, hl => ⟨cur, h, rfl, by simp⟩
  | v :: vs, o, w, cur, h, hl => by
    have ho : o < cur.size := by simp at hl; omega
    have h1 := heap_setCell_same w b o cur T v h
    obtain ⟨cur', e1, e2, e3⟩ := setCells_row vs (o + 1) (w.setCell ⟨b, o, none⟩ v) _ h1 (by simp at hl ⊢; omega)
    refine ⟨cur', e1, by rw [e2]; simp, ?_⟩
    rw [e3]
    have hcl : cur.toList.length = cur.size := Array.length_toList
    simp only [Array.toList_setIfInBounds, List.length_cons]
    rw [List.take_succ_eq_append_getElem (by simp; omega)]
    simp only [List.getElem_set_self, List.append_assoc, List.cons_append, List.nil_append]
    rw [List.take_set_of_le (Nat.le_refl _), List.drop_set_of_lt (by omega), show o + 1 + vs.length = o + (vs.length + 1) by omega]
theorem setCells_world (b : Nat) : ∀ (vs : List Value) (o : Nat) (w : World), (w.setCells b o vs).os = w.os ∧ (w.setCells b o vs).tape = w.tape ∧ (w.setCells b o vs).output = w.output ∧ (w.setCells b o vs).drawn = w.drawn ∧ (w.setCells b o vs).heap.size = w.heap.size ∧ ∀ k, k ≠ b → (w.setCells b o vs).heap[k]? = w.heap[k]?
  | [], o, w => ⟨rfl, rfl, rfl, rfl, rfl, fun _ _ => rfl⟩
  | v :: vs, o, w => by
    obtain ⟨a1, a2, a3, a4, a5, a6⟩ := setCells_world b vs (o + 1) (w.setCell ⟨b, o, none⟩ v)
    refine ⟨a1, a2, a3, a4, ?_, fun k hk => (a6 k hk).trans (heap_setCell_other w ⟨b, o, none⟩ k v hk)⟩
    refine a5.trans ?_
    unfold World.setCell
    split <;> simp
/-- A block's rows turn in place. -/
theorem post_rows {C : Cx} {b : Nat} {w' : World} {cur cur' : Array Value} {T sz : Nat} {rows rows' : List (List PV)} (hsub : ∀ b, C.S b → b < C.W.heap.size) (hb : C.ρ 0 = some b) (hS : ¬ C.S b) (hc : C.W.heap[b]? = some (.cells cur T (0, 0)))
    (hc' : w'.heap[b]? = some (.cells cur' T (0, 0))) (hsz : cur'.size = cur.size) (h1 : w'.os = C.W.os) (h2 : w'.tape = C.W.tape) (h3 : w'.output = C.W.output) (h4 : C.W.drawn ≤ w'.drawn) (h5 : w'.heap.size = C.W.heap.size) (h6 : ∀ k, k ≠ b → w'.heap[k]? = C.W.heap[k]?)
    (hrow : RowsOk sz rows') (hre : ReL C rows'.flatten (cur'.toList.take rows'.flatten.length)) : PostOk C [(0, ⟨T, sz, rows, .cells⟩)] ⟨w', C.ρ, C.S⟩ [(0, ⟨T, sz, rows', .cells⟩)] := by
  have hshp : Shp C.W w' := fun c cur0 T0 fz0 hcc => by
    by_cases e : c = b
    · subst e
      rw [hc] at hcc; cases hcc
      exact ⟨cur', _, hc', hsz⟩
    · exact ⟨cur0, fz0, (h6 c e).trans hcc, rfl⟩
  have hle : C.le ⟨w', C.ρ, C.S⟩ := .mk' (fun _ h => h) (fun c hcS => h6 c (fun e => hS (e ▸ hcS))) (fun _ _ h => h) hshp
  have hfr : Fr (owned C [(0, ⟨T, sz, rows, .cells⟩)]) C.W w' := ⟨h1, h2, h3, h4, by rw [h5]; exact Nat.le_refl _, fun c hc0 hn => h6 c (fun e => hn ⟨0, _, rfl, e ▸ hb⟩), hshp⟩
  refine ⟨⟨?_, ?_⟩, fun c hc0 => by rw [h5]; exact hsub c hc0, fun c hc0 _ => .inl hc0, fun nm ob c g1 g2 => ?_, fun nm ob c _ h => h, hfr⟩
  · intro nm ob hl
    simp only [lookO] at hl
    split at hl
    · next e =>
      cases hl; subst e
      exact .of_cells rfl hrow (.inr ⟨b, _, hb, hS, hc', hre.mono hle⟩)
    · cases hl
  · intro nm nm' c ob ob' g1 g2 g3 g4
    simp only [lookO] at g1 g2
    split at g1
    · split at g2
      · omega
      · cases g2
    · cases g1
  · simp only [lookO] at g1
    split at g1
    · next e => subst e; exact .inl ⟨0, _, rfl, g2⟩
    · cases g1
theorem reL3 {C : Cx} {p q r : PV} {vs : List Value} (h : ReL C [p, q, r] vs) : ∃ v w x, vs = [v, w, x] ∧ Re C p v ∧ Re C q w ∧ Re C r x := by
  obtain ⟨hl, hh⟩ := h
  match vs, hl, hh with
  | [v, w, x], hl, hh => exact ⟨v, w, x, rfl, hh 0 (by simp) (by simp), hh 1 (by simp) (by simp), hh 2 (by simp) (by simp)⟩
theorem sl_at2 {C : Cx} {n sz : Nat} {v : Value} (h : Re C (.sl 0 sz 0 n) v) (h0 : 0 < n) : ∃ b cap cur T fz, C.ρ 0 = some b ∧ C.W.heap[b]? = some (.cells cur T fz) ∧ n ≤ cap ∧ cap ≤ maxLen ∧ cap * sz ≤ cur.size ∧ v = .slice (some ⟨b, 0, none⟩) n cap := by
  cases h with
  | sl hb hc h2 h3 h4 => exact ⟨_, _, _, _, _, hb, hc, h2, h3, by rw [Nat.zero_add] at h4; exact h4, by rw [Nat.zero_mul]⟩
  | sl0 => omega
/-- What a block holds. -/
theorem block_at {C : Cx} {T sz : Nat} {rows : List (List PV)} {b : Nat} (h : ObOk C 0 ⟨T, sz, rows, .cells⟩) (hb : C.ρ 0 = some b) : ∃ cur : Array Value, ¬ C.S b ∧ C.W.heap[b]? = some (.cells cur T (0, 0)) ∧ ReL C rows.flatten (cur.toList.take rows.flatten.length) := by
  rcases (h.cells rfl).2 with ⟨h1, _⟩ | ⟨b', cur, h1, h2, h3, h4⟩
  · rw [hb] at h1; cases h1
  · rw [hb] at h1; cases h1
    exact ⟨cur, h2, h3, h4⟩
theorem delete_call {l : List DocW} {k : Nat} (hk : k < l.length) (hl : l.length ≤ 1000000) :
    CallOk Try.prog 64 [.sl 0 2 0 l.length, .val (.int .i64 k), .val (.int .i64 ((k : Int) + 1))] [(0, docsO l)] (.sl 0 2 0 (l.length - 1)) [(0, docsO (l.take k ++ l.drop (k + 1)))] := by
  refine ⟨enters_64, fun C vs hargs hob hsub hsm => ?_⟩
  obtain ⟨v, v1, v2, rfl, hv, hv1, hv2⟩ := reL3 hargs
  cases hv1; cases hv2
  obtain ⟨b, cap, cur, T0, fz0, hb, hc0, hcap, hmax, hfit, rfl⟩ := sl_at2 hv (by omega)
  obtain ⟨curB, hS, hc, hrel⟩ := block_at (hob.obs 0 _ rfl) hb
  rw [hc] at hc0; cases hc0
  have hrow : RowsOk 2 (rowsD l) := (rowsN_ok' l).2 trivial
  have hfl : (rowsD l).flatten.length = l.length * 2 := by rw [flatten_length hrow, rowsN_length]
  rw [hfl] at hrel
  have hone := hrel.one hrow.one
  unfold maxLen at hmax
  have hcl : cur.toList.length = cur.size := Array.length_toList
  have hsize : l.length * 2 ≤ cur.size := Nat.le_trans (Nat.mul_le_mul_right 2 hcap) hfit
  obtain ⟨news, hnews⟩ : ∃ news, (cur.toList.take (l.length * 2)).drop ((k + 1) * 2) = news := ⟨_, rfl⟩
  have hnl : news.length = (l.length - (k + 1)) * 2 := by rw [← hnews, List.length_drop, List.length_take]; omega
  have hcell : ∀ j u, cur[j]? = some u → C.W.cell? ⟨b, j, none⟩ = some u := fun j u h => by rw [Lib.cell_of_heap hc]; exact h
  have hcall := delete_raw b l.length cap k C.W news hk hcap hmax hnl (fun j u hj => by
      rw [← hnews, List.getElem?_drop, List.getElem?_take] at hj
      split at hj
      · exact hcell _ _ (by rw [← Array.getElem?_toList]; exact hj)
      · cases hj) (fun u hu => hone u (by rw [← hnews] at hu; exact List.mem_of_mem_drop hu)) (fun j hj => by
      refine ⟨?_, Lib.frozen_of_heap hc _⟩
      have hlt : j < cur.size := by omega
      rw [hcell j cur[j] (Array.getElem?_eq_getElem hlt)]; rfl)
  refine hcall.mono ?_
  rintro e W' ⟨rfl, q, zs, hz, hW⟩
  have hcA : (Sort.ahead C.W q).heap[b]? = some (.cells cur 41 (0, 0)) := hc
  obtain ⟨cur1, e1, e2, e3⟩ := setCells_row news (k * 2) (Sort.ahead C.W q) cur hcA (by omega)
  obtain ⟨cur2, f1, f2, f3⟩ := setCells_row zs ((l.length - 1) * 2) ((Sort.ahead C.W q).setCells b (k * 2) news) cur1 e1 (by rw [e2, hz]; omega)
  obtain ⟨a1, a2, a3, a4, a5, a6⟩ := setCells_world b news (k * 2) (Sort.ahead C.W q)
  obtain ⟨c1, c2, c3, c4, c5, c6⟩ := setCells_world b zs ((l.length - 1) * 2) ((Sort.ahead C.W q).setCells b (k * 2) news)
  rw [← hW] at f1 c1 c2 c3 c4 c5 c6
  have hrows : (rowsD (l.take k ++ l.drop (k + 1))).flatten = (rowsD l).flatten.take (k * 2) ++ (rowsD l).flatten.drop ((k + 1) * 2) := by
    rw [flatten_take k hrow, flatten_drop (k + 1) hrow, ← List.flatten_append, rowsN_take, rowsN_drop, rowsN_app]
  have hrow' : RowsOk 2 (rowsD (l.take k ++ l.drop (k + 1))) := (rowsN_ok' _).2 trivial
  have hrl : (rowsD (l.take k ++ l.drop (k + 1))).flatten.length = (l.length - 1) * 2 := by
    rw [hrows, List.length_append, List.length_take, List.length_drop, hfl]; omega
  have hcur : cur2.toList.take ((l.length - 1) * 2) = (cur.toList.take (l.length * 2)).take (k * 2) ++ (cur.toList.take (l.length * 2)).drop ((k + 1) * 2) := by
    have hc1 : cur1.toList.length = cur1.size := Array.length_toList
    have l1 : (cur1.toList.take ((l.length - 1) * 2)).length = (l.length - 1) * 2 := by rw [List.length_take]; omega
    rw [f3, List.append_assoc, List.take_left' l1, e3, hnews, List.take_take, Nat.min_eq_left (by omega)]
    have l2 : (cur.toList.take (k * 2) ++ news).length = (l.length - 1) * 2 := by rw [List.length_append, List.length_take, hnl]; omega
    rw [List.take_left' l2]
  have hpost := post_rows (rows := rowsD l) (rows' := rowsD (l.take k ++ l.drop (k + 1))) (sz := 2) (w' := W') hsub hb hS hc f1 (f2.trans e2) (c1.trans a1) (c2.trans a2) (c3.trans a3) (by rw [c4, a4]; exact Nat.le_add_right _ _) (c5.trans a5) (fun j hj => (c6 j hj).trans (a6 j hj)) hrow' (by
    rw [hrl, hcur, hrows]
    exact (hrel.take _).append (hrel.drop _))
  refine ⟨_, ⟨W', C.ρ, C.S⟩, rfl, rfl, ?_, hpost⟩
  exact Re.sl (C := ⟨W', C.ρ, C.S⟩) (nm := 0) (sz := 2) (off := 0) (len := l.length - 1) (cap := cap) hb f1 (by omega) (by unfold maxLen; exact hmax) (by rw [f2, e2, Nat.zero_add]; exact hfit)
end Go.Proofs.Ytipolblhiljoiaa.Sy
