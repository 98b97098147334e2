/- Layer 17: slices.Insert of a document, as a contract. -/
import Derived.Test.YtipolblhiljoiaaC17k
import Derived.Test.YtipolblhiljoiaaSyIns
namespace Go.Proofs.Ytipolblhiljoiaa.Sy
open Go Go.RowKit
set_option linter.unusedVariables false
set_option linter.unusedSimpArgs false
theorem post_ins {C : Cx} {pre : List (Nat × Ob)} {b' : Nat} {w' : World} {cur' : Array Value} {T sz : Nat} {rows' : List (List PV)} (hsub : ∀ b, C.S b → b < C.W.heap.size) (hfr : Fr (owned C pre) C.W w') (hpre : lookO pre 2 = none) (hown : owned C pre b' ∨ C.W.heap.size ≤ b') (hS : ¬ C.S b')
    (hc' : w'.heap[b']? = some (.cells cur' T (0, 0))) (hrow : RowsOk sz rows') (hre : ReL ⟨w', fun k => if k = 2 then some b' else C.ρ k, C.S⟩ rows'.flatten (cur'.toList.take rows'.flatten.length)) :
    PostOk C pre ⟨w', fun k => if k = 2 then some b' else C.ρ k, C.S⟩ [(2, ⟨T, sz, rows', .cells⟩)] := by
  refine ⟨⟨?_, ?_⟩, fun c hc0 => Nat.lt_of_lt_of_le (hsub c hc0) hfr.size, fun c hc0 _ => .inl hc0, fun nm ob c g1 g2 => ?_, fun nm ob c g1 g2 => ?_, hfr⟩
  · intro nm ob hl
    simp only [lookO] at hl
    split at hl
    · next e =>
      cases hl; subst e
      exact .of_cells rfl hrow (.inr ⟨b', _, by simp, hS, hc', hre⟩)
    · cases hl
  · intro nm nm' c ob ob' g1 g2 g3 g4
    simp only [lookO] at g1 g2
    split at g1
    · split at g2
      · omega
      · cases g2
    · cases g1
  · simp only [lookO] at g1
    split at g1
    · next e =>
      subst e
      simp at g2
      rw [← g2]; exact hown
    · cases g1
  · by_cases e : nm = 2
    · subst e; rw [hpre] at g1; cases g1
    · show (if nm = 2 then some b' else C.ρ nm) = some c
      rw [if_neg e]; exact g2
theorem reL_nn {C : Cx} {l : List DocW} {vs : List Value} (h : ReL C (rowsD l).flatten vs) : ReL C.nn (rowsD l).flatten vs :=
  ⟨h.1, fun i h1 h2 => Re.nf (C := C) (C' := C) rfl (fun _ h => h) (h.2 i h1 h2) (by
    obtain ⟨r, hr, hm⟩ := List.mem_flatten.1 (List.getElem_mem h1)
    simp only [rowsD, rowsN, List.mem_map] at hr
    obtain ⟨d, _, rfl⟩ := hr
    simp [docR] at hm
    rcases hm with e | e <;> rw [e] <;> trivial)⟩
theorem le_ins {C : Cx} {b' : Nat} {w' : World} {M : Nat → Prop} (hfr : Fr M C.W w') (hsub : ∀ b, C.S b → b < C.W.heap.size) (hM : ∀ b, C.S b → ¬ M b) : C.nn.le ⟨w', fun k => if k = 2 then some b' else C.ρ k, C.S⟩ :=
  .mk' (fun _ h => h) (fun c hc => hfr.block c (hsub c hc) (hM c hc)) (fun _ _ h => by cases h) hfr.shp
theorem shape_cells {w : World} {b : Nat} {cur : Array Value} {T : TypeId} {fz : Nat × Nat} (h : w.heap[b]? = some (.cells cur T fz)) : w.shape? b = some (T, cur.size) := by
  unfold World.shape?; rw [h]
theorem sl_atN {C : Cx} {nm n sz : Nat} {v : Value} (h : Re C (.sl nm sz 0 n) v) (h0 : 0 < n) : ∃ b cap cur T fz, C.ρ nm = some b ∧ C.W.heap[b]? = some (.cells cur T fz) ∧ n ≤ cap ∧ cap ≤ maxLen ∧ cap * sz ≤ cur.size ∧ v = .slice (some ⟨b, 0, none⟩) n cap := by
  cases h with
  | sl hb hc h2 h3 h4 => exact ⟨_, _, _, _, _, hb, hc, h2, h3, by rw [Nat.zero_add] at h4; exact h4, by rw [Nat.zero_mul]⟩
  | sl0 => omega
theorem block_atN {C : Cx} {nm T sz : Nat} {rows : List (List PV)} {b : Nat} (h : ObOk C nm ⟨T, sz, rows, .cells⟩) (hb : C.ρ nm = some b) : ∃ cur : Array Value, ¬ C.S b ∧ C.W.heap[b]? = some (.cells cur T (0, 0)) ∧ ReL C rows.flatten (cur.toList.take rows.flatten.length) := by
  rcases (h.cells rfl).2 with ⟨h1, _⟩ | ⟨b', cur, h1, h2, h3, h4⟩
  · rw [hb] at h1; cases h1
  · rw [hb] at h1; cases h1
    exact ⟨cur, h2, h3, h4⟩
theorem ins_flat (l : List DocW) (d : DocW) (i : Nat) : (rowsD (l.take i ++ [d] ++ l.drop i)).flatten = (rowsD l).flatten.take (i * 2) ++ (rowsD [d]).flatten ++ (rowsD l).flatten.drop (i * 2) := by
  have hrow : RowsOk 2 (rowsD l) := (rowsN_ok' l).2 trivial
  rw [flatten_take i hrow, flatten_drop i hrow, ← List.flatten_append, ← List.flatten_append, rowsN_take, rowsN_drop, rowsN_app, rowsN_app]
theorem setCells_fr {M : Nat → Prop} {W w : World} {b : Nat} (vs : List Value) (o : Nat) (h : Fr M W w) (hb : M b ∨ W.heap.size ≤ b) {cur : Array Value} {T : TypeId} (hc : w.heap[b]? = some (.cells cur T (0, 0))) (hl : o + vs.length ≤ cur.size) : Fr M W (w.setCells b o vs) := by
  obtain ⟨a1, a2, a3, a4, a5, a6⟩ := setCells_world b vs o w
  obtain ⟨cur1, e1, e2, e3⟩ := setCells_row vs o w cur hc hl
  refine ⟨a1.trans h.os, a2.trans h.tape, a3.trans h.output, by rw [a4]; exact h.drawn, by rw [a5]; exact h.size, fun c hc0 hn => (a6 c (fun e => ?_)).trans (h.block c hc0 hn), h.shp.trans ?_⟩
  · subst e
    rcases hb with hb | hb
    · exact hn hb
    · omega
  · intro c cur0 T0 fz0 hcc
    by_cases e : c = b
    · subst e
      rw [hc] at hcc; cases hcc
      exact ⟨cur1, _, e1, e2⟩
    · exact ⟨cur0, fz0, (a6 c e).trans hcc, rfl⟩
theorem ahead_fr {M : Nat → Prop} {W : World} (q : Nat) : Fr M W (Sort.ahead W q) :=
  ⟨rfl, rfl, rfl, Nat.le_add_right _ _, Nat.le_refl _, fun _ _ _ => rfl, Shp.refl _⟩
theorem alloc_fr {M : Nat → Prop} {W : World} (o : Obj) : Fr M W (W.alloc o) := by
  have hl : ∀ c, c < W.heap.size → (W.alloc o).heap[c]? = W.heap[c]? := fun c hc => by
    show (W.heap.push o)[c]? = _
    rw [Array.getElem?_push_lt hc, Array.getElem?_eq_getElem hc]
  refine ⟨rfl, rfl, rfl, Nat.le_refl _, by show W.heap.size ≤ (W.heap.push o).size; rw [Array.size_push]; omega, fun c hc _ => hl c hc, fun c cur T fz h => ⟨cur, fz, (hl c ?_).trans h, rfl⟩⟩
  exact (Array.getElem?_eq_some_iff.1 h).1
theorem insert_lt {l : List DocW} {d : DocW} {i : Nat} (hi : i < l.length) (hl : l.length ≤ 1000000) :
    CallOk Try.prog 63 [.sl 0 2 0 l.length, .val (.int .i64 i), .sl 1 2 0 1] [(0, docsO l), (1, docsO [d])] (.sl 2 2 0 (l.length + 1)) [(2, docsO (l.take i ++ [d] ++ l.drop i))] := by
  refine ⟨enters_63, fun C vs hargs hob hsub hsm => ?_⟩
  obtain ⟨v, v1, v2, rfl, hv, hv1, hv2⟩ := reL3 hargs
  cases hv1
  obtain ⟨b, cap, cur, T0, fz0, hb, hc0, hcap, hmax, hfit, rfl⟩ := sl_atN hv (by omega)
  obtain ⟨curB, hS, hc, hrel⟩ := block_atN (hob.obs 0 _ rfl) hb
  rw [hc] at hc0; cases hc0
  obtain ⟨vb, vc, curv, T1, fz1, hvb, hvc0, hvcap, hvmax, hvfit, rfl⟩ := sl_atN hv2 (by omega)
  obtain ⟨curB', hSv, hvc, hrelv⟩ := block_atN (hob.obs 1 _ rfl) hvb
  rw [hvc] at hvc0; cases hvc0
  have hne : vb ≠ b := fun e => by
    have := hob.inj 0 1 b _ _ rfl rfl hb (e ▸ hvb)
    omega
  have hrow : RowsOk 2 (rowsD l) := (rowsN_ok' l).2 trivial
  have hrowv : RowsOk 2 (rowsD [d]) := (rowsN_ok' [d]).2 trivial
  have hfl : (rowsD l).flatten.length = l.length * 2 := by rw [flatten_length hrow, rowsN_length]
  have hflv : (rowsD [d]).flatten.length = 2 := by rw [flatten_length hrowv, rowsN_length]; rfl
  rw [hfl] at hrel
  rw [hflv] at hrelv
  have hone := hrel.one hrow.one
  have honev := hrelv.one hrowv.one
  have hcl : cur.toList.length = cur.size := Array.length_toList
  have hclv : curv.toList.length = curv.size := Array.length_toList
  have hsize : l.length * 2 ≤ cur.size := Nat.le_trans (Nat.mul_le_mul_right 2 hcap) hfit
  have hcell : ∀ j u, cur[j]? = some u → C.W.cell? ⟨b, j, none⟩ = some u := fun j u h => by rw [Lib.cell_of_heap hc]; exact h
  have hcellv : ∀ j u, curv[j]? = some u → C.W.cell? ⟨vb, j, none⟩ = some u := fun j u h => by rw [Lib.cell_of_heap hvc]; exact h
  obtain ⟨cs, hcs⟩ : ∃ cs, cur.toList.take (l.length * 2) = cs := ⟨_, rfl⟩
  obtain ⟨us, hus⟩ : ∃ us, curv.toList.take 2 = us := ⟨_, rfl⟩
  rw [hcs] at hrel hone
  rw [hus] at hrelv honev
  have hcsl : cs.length = l.length * 2 := by rw [← hcs, List.length_take]; omega
  have husl : us.length = 2 := by rw [← hus, List.length_take]; omega
  have hcsc : ∀ j u, cs[j]? = some u → C.W.cell? ⟨b, j, none⟩ = some u := fun j u h => by
    rw [← hcs, List.getElem?_take] at h
    split at h
    · exact hcell _ _ (by rw [← Array.getElem?_toList]; exact h)
    · cases h
  have husc : ∀ j u, us[j]? = some u → C.W.cell? ⟨vb, 0 + j, none⟩ = some u := fun j u h => by
    rw [← hus, List.getElem?_take] at h
    split at h
    · rw [Nat.zero_add]; exact hcellv _ _ (by rw [← Array.getElem?_toList]; exact h)
    · cases h
  have hdl : (cs.drop (i * 2)).length = (l.length - i) * 2 := by rw [List.length_drop, hcsl]; omega
  have hrow' : RowsOk 2 (rowsD (l.take i ++ [d] ++ l.drop i)) := (rowsN_ok' _).2 trivial
  have hflat := ins_flat l d i
  have hrl : (rowsD (l.take i ++ [d] ++ l.drop i)).flatten.length = (l.length + 1) * 2 := by
    rw [hflat, List.length_append, List.length_append, List.length_take, List.length_drop, hfl, hflv]; omega
  have hnn := ((reL_nn hrel).take (i * 2)).append (reL_nn hrelv) |>.append ((reL_nn hrel).drop (i * 2))
  rw [← hflat] at hnn
  have own0 : owned C [(0, docsO l), (1, docsO [d])] b := ⟨0, _, rfl, hb⟩
  have hblt : b < C.W.heap.size := (Array.getElem?_eq_some_iff.1 hc).1
  have hMS : ∀ c, C.S c → ¬ owned C [(0, docsO l), (1, docsO [d])] c := by
    rintro c hcS ⟨nm, ob, h1, h2⟩
    simp only [lookO] at h1
    split at h1
    · next e =>
      subst e
      rw [hb] at h2; cases h2; exact hS hcS
    · split at h1
      · next e =>
        subst e
        rw [hvb] at h2; cases h2; exact hSv hcS
      · cases h1
  unfold maxLen at hmax
  by_cases hroom : l.length + 1 ≤ cap
  · have hcall := insert_shift b l.length cap i vb vc cs us C.W hi hroom hmax hne hcsl husl hcsc (fun j hj => by
      have hlt : j < cur.size := by omega
      rw [hcell j cur[j] (Array.getElem?_eq_getElem hlt)]; rfl) (fun j => Lib.frozen_of_heap hc _) husc hone honev _ _ _ _ (shape_cells hvc) (shape_cells hc) (by omega) (Lib.frozen_of_heap hvc _) (Lib.frozen_of_heap hvc _)
    refine hcall.mono ?_
    rintro e W' ⟨rfl, q, hW⟩
    have hcA : (Sort.ahead C.W q).heap[b]? = some (.cells cur 41 (0, 0)) := hc
    obtain ⟨cur1, e1, e2, e3⟩ := setCells_row (cs.drop (i * 2)) ((i + 1) * 2) (Sort.ahead C.W q) cur hcA (by omega)
    obtain ⟨cur2, f1, f2, f3⟩ := setCells_row us (i * 2) ((Sort.ahead C.W q).setCells b ((i + 1) * 2) (cs.drop (i * 2))) cur1 e1 (by omega)
    have hfr : Fr (owned C [(0, docsO l), (1, docsO [d])]) C.W W' := by
      rw [hW]
      exact setCells_fr _ _ (setCells_fr _ _ (ahead_fr q) (.inl own0) hcA (by omega)) (.inl own0) e1 (by omega)
    rw [← hW] at f1
    have hcur : cur2.toList.take ((l.length + 1) * 2) = cs.take (i * 2) ++ us ++ cs.drop (i * 2) := by
      have l0 : (cur.toList.take ((i + 1) * 2)).length = i * 2 + us.length := by rw [List.length_take]; omega
      have l1 : (cs.take (i * 2) ++ us ++ cs.drop (i * 2)).length = (l.length + 1) * 2 := by simp only [List.length_append, List.length_take, hdl]; omega
      have l2 : cur1.toList.take (i * 2) = cs.take (i * 2) := by
        rw [e3, List.append_assoc, List.take_append_of_le_length (by omega), List.take_take, ← hcs, List.take_take]
        congr 1; omega
      rw [f3, l2, e3, List.append_assoc (cur.toList.take _), List.drop_left' l0, ← List.append_assoc, List.take_left' l1]
    have hpost := post_ins (pre := [(0, docsO l), (1, docsO [d])]) hsub hfr rfl (.inl own0) hS f1 hrow' (by
      rw [hrl, hcur]
      exact hnn.mono (le_ins hfr hsub hMS))
    refine ⟨_, _, rfl, rfl, ?_, hpost⟩
    exact Re.sl (nm := 2) (sz := 2) (off := 0) (len := l.length + 1) (cap := cap) (by simp) f1 hroom (by unfold maxLen; exact hmax) (by rw [f2, e2, Nat.zero_add]; exact hfit)
  · have hcall := insert_grow b l.length cap i vb vc cs us C.W hi hcap (by omega) hl hcsl husl hcsc husc hone honev
    refine hcall.mono ?_
    rintro e W' ⟨ROW, G, hG1, hG2, hG3, hG4, rfl, q, hW⟩
    have hRl : ROW.toList.length = ROW.size := Array.length_toList
    have hcA : ((Sort.ahead C.W q).alloc (.cells ROW 41)).heap[C.W.heap.size]? = some (.cells ROW 41 (0, 0)) := by
      show (C.W.heap.push _)[C.W.heap.size]? = _
      exact Array.getElem?_push_size
    have hfr0 : Fr (owned C [(0, docsO l), (1, docsO [d])]) C.W ((Sort.ahead C.W q).alloc (.cells ROW 41)) := (ahead_fr (M := owned C [(0, docsO l), (1, docsO [d])]) q).trans (alloc_fr (M := owned C [(0, docsO l), (1, docsO [d])]) _) (fun _ _ h => h)
    obtain ⟨cur1, e1, e2, e3⟩ := setCells_row us (i * 2) _ ROW hcA (by omega)
    obtain ⟨cur2, f1, f2, f3⟩ := setCells_row (cs.drop (i * 2)) ((i + 1) * 2) _ cur1 e1 (by omega)
    have hfr : Fr (owned C [(0, docsO l), (1, docsO [d])]) C.W W' := by
      rw [hW]
      exact setCells_fr _ _ (setCells_fr _ _ hfr0 (.inr (Nat.le_refl _)) hcA (by omega)) (.inr (Nat.le_refl _)) e1 (by omega)
    rw [← hW] at f1
    have hcur : cur2.toList.take ((l.length + 1) * 2) = cs.take (i * 2) ++ us ++ cs.drop (i * 2) := by
      have l0 : (ROW.toList.take (i * 2) ++ us).length = (i + 1) * 2 := by rw [List.length_append, List.length_take]; omega
      have l1 : (cs.take (i * 2) ++ us ++ cs.drop (i * 2)).length = (l.length + 1) * 2 := by simp only [List.length_append, List.length_take, hdl]; omega
      rw [f3, e3, List.take_left' l0, hG4, List.take_left' l1]
    have hpost := post_ins (pre := [(0, docsO l), (1, docsO [d])]) hsub hfr rfl (.inr (Nat.le_refl _)) (fun h => Nat.lt_irrefl _ (hsub _ h)) f1 hrow' (by
      rw [hrl, hcur]
      exact hnn.mono (le_ins hfr hsub hMS))
    refine ⟨_, _, rfl, rfl, ?_, hpost⟩
    exact Re.sl (nm := 2) (sz := 2) (off := 0) (len := l.length + 1) (cap := G) (by simp) f1 hG1 hG2 (by rw [f2, e2, Nat.zero_add]; omega)
theorem insert_end (l : List DocW) (d : DocW) (hl : l.length ≤ 1000000) :
    CallOk Try.prog 63 [.sl 0 2 0 l.length, .val (.int .i64 l.length), .sl 1 2 0 1] [(0, docsO l), (1, docsO [d])] (.sl 2 2 0 (l.length + 1)) [(2, docsO (l ++ [d]))] := by
  refine .of_exec Try.func63 rfl enters_63 rfl rfl (Nat.le_of_ble_eq_true rfl) (fun n h => by simp [show ¬ n = 0 by omega, show ¬ n = 1 by omega, show ¬ 0 = n by omega, show ¬ 1 = n by omega]) ?_
  simp
  have b1 : l.length ≤ 140737488355327 ∧ (l.length + 1) * 32 ≤ 140737488355328 := by omega
  refine ⟨b1, fun _ _ => ?_⟩
  exact .own [(200, 2)] (by simp) (by simp) (by simp) (by simp) (by simp)
end Go.Proofs.Ytipolblhiljoiaa.Sy
