/- Sy: slices.SortFunc, from the library's contract. -/
import Derived.Test.YthijmjglpcljcaaSyKit
import Derived.Shelf.SlSortCmp.NoneTotal
namespace Go.Proofs.Ythijmjglpcljcaa.Sy
open Go Go.RowKit Go.Sort
set_option linter.unusedVariables false
set_option linter.unusedSimpArgs false
set_option linter.unusedSectionVars false
section
variable {P : Program} {α : Type} [Inhabited α] (enc : α → List Value) (k : Nat)
def rowsE (d : List α) : List (List PV) := d.map fun x => (enc x).map PV.val
theorem rowsE_flat (d : List α) : (rowsE enc d).flatten = (d.flatMap enc).map PV.val := by
  induction d with
  | nil => rfl
  | cons x d ih => simp only [rowsE, List.map_cons, List.flatten_cons, List.flatMap_cons, List.map_append] at ih ⊢; rw [ih]
theorem reL_vals {C : Cx} : ∀ {l : List Value} {vs : List Value}, ReL C (l.map PV.val) vs → vs = l
  | [], vs, h => List.eq_nil_of_length_eq_zero (by simpa using h.1.symm)
  | v :: l, [], h => by have := h.1; simp at this
  | v :: l, w :: vs, h => by
    obtain ⟨h1, h2⟩ := ReL.head (by simpa using h)
    cases h1
    rw [reL_vals h2]
theorem vals_reL {C : Cx} : ∀ (l : List Value), ReL C (l.map PV.val) l
  | [] => .nil C
  | v :: l => .cons (.val v) (vals_reL l)
variable {enc} {k}
theorem flat_length (hk : ∀ x, (enc x).length = k) : ∀ d : List α, (d.flatMap enc).length = d.length * k
  | [] => by simp
  | x :: d => by rw [List.flatMap_cons, List.length_append, flat_length hk d, hk, List.length_cons, Nat.succ_mul]; omega
theorem flat_get (hk : ∀ x, (enc x).length = k) : ∀ (d : List α) (t : Nat), t < d.length * k → (d.flatMap enc)[t]? = some (enc d.toArray[t / k]!)[t % k]!
  | [], t, h => by simp at h
  | x :: d, t, h => by
    have k0 : 0 < k := by rcases Nat.eq_zero_or_pos k with h' | h'; · subst h'; simp at h
                          · exact h'
    rw [List.flatMap_cons]
    by_cases ht : t < k
    · have hl : t < (enc x).length := by rw [hk]; exact ht
      rw [List.getElem?_append_left hl, Nat.div_eq_of_lt ht, Nat.mod_eq_of_lt ht, List.getElem?_eq_getElem hl]
      simp [hl]
    · obtain ⟨u, rfl⟩ : ∃ u, t = k + u := ⟨t - k, by omega⟩
      rw [List.getElem?_append_right (by rw [hk]; omega), hk, Nat.add_sub_cancel_left]
      rw [List.length_cons, Nat.succ_mul] at h
      rw [flat_get hk d u (by omega), Nat.add_div_left _ k0, Nat.add_mod_left]
      simp
theorem flatK_get (hk : ∀ x, (enc x).length = k) (d : List α) {t : Nat} (h : t < d.length * k) : (d.flatMap enc)[t]? = some (flatK enc k d.toArray)[t]! := by
  rw [flat_get hk d t h, get_flatK enc k d.toArray t (by simpa using h)]
theorem modify_heap {W : World} {b : Nat} {cur : Array Value} {T : TypeId} {fz : Nat × Nat} (h : W.heap[b]? = some (.cells cur T fz)) (f : Array Value → Array Value) (os : Array Obj) (n : Nat) :
    (grow (mapBlock (Sort.ahead W n) b f) os).heap[b]? = some (.cells (f cur) T fz) ∧ (∀ c, c < W.heap.size → c ≠ b → (grow (mapBlock (Sort.ahead W n) b f) os).heap[c]? = W.heap[c]?) ∧ W.heap.size ≤ (grow (mapBlock (Sort.ahead W n) b f) os).heap.size := by
  have hlt := (Array.getElem?_eq_some_iff.1 h).1
  have hs : (mapBlock (Sort.ahead W n) b f).heap.size = W.heap.size := by simp [mapBlock, Sort.ahead]
  refine ⟨?_, fun c hc hne => ?_, ?_⟩
  · show ((mapBlock (Sort.ahead W n) b f).heap ++ os)[b]? = _
    rw [Array.getElem?_append_left (by rw [hs]; exact hlt)]
    show (W.heap.modify b (onCells f))[b]? = _
    rw [Array.getElem?_modify, if_pos rfl, h]; rfl
  · show ((mapBlock (Sort.ahead W n) b f).heap ++ os)[c]? = _
    rw [Array.getElem?_append_left (by rw [hs]; exact hc)]
    show (W.heap.modify b (onCells f))[c]? = _
    rw [Array.getElem?_modify, if_neg (fun e => hne e.symm)]
  · show _ ≤ ((mapBlock (Sort.ahead W n) b f).heap ++ os).size
    rw [Array.size_append, hs]; omega
/-- A comparing function, as the library's sort asks it. -/
theorem cmp_lays {g : FuncId} {cf : α → α → Int} (h : ∀ x y, CallOk P g [.agg ((enc x).map PV.val), .agg ((enc y).map PV.val)] [] (.val (.int .i64 (cf x y))) []) (blk off size : Nat) (w : World) : CmpLays P g #[] enc k cf blk off size w := by
  intro m os dk _ x y
  generalize sortWorldK enc k w blk off m dk os = W
  have hargs : ReL ⟨W, fun _ => none, fun _ => False⟩ [.agg ((enc x).map PV.val), .agg ((enc y).map PV.val)] [.agg (enc x).toArray, .agg (enc y).toArray] :=
    by
    have a : ∀ (C : Cx) z, Re C (.agg ((enc z).map PV.val)) (.agg (enc z).toArray) := fun C z => .agg (vals_reL (C := C) (enc z)).1 (vals_reL (C := C) (enc z)).2
    exact .cons (a _ x) (.cons (a _ y) (.nil _))
  refine ((h x y).2 ⟨W, fun _ => none, fun _ => False⟩ _ hargs ⟨fun nm ob h => (by cases h), fun nm nm' b ob ob' h => (by cases h)⟩ (fun _ h => h.elim) (fun n _ => rfl)).mono ?_
  rintro e W' ⟨v, C', he, rfl, hr, hp⟩
  cases hr
  refine ⟨he, C'.W.drawn - W.drawn, C'.W.heap.extract W.heap.size C'.W.heap.size, ?_⟩
  have hf := hp.fr
  have hd : W.drawn + (C'.W.drawn - W.drawn) = C'.W.drawn := by have := hf.drawn; simp only at this; omega
  have hh : W.heap ++ C'.W.heap.extract W.heap.size C'.W.heap.size = C'.W.heap := by
    apply Array.ext_getElem?
    intro i
    have hsz := hf.size
    simp only at hsz
    by_cases hi : i < W.heap.size
    · rw [Array.getElem?_append_left hi]
      exact (hf.block i hi (fun ⟨nm, ob, h1, _⟩ => by cases h1)).symm
    · rw [Array.getElem?_append_right (by omega), Array.getElem?_extract]
      by_cases h2 : i < C'.W.heap.size
      · rw [if_pos (by omega)]; congr 1; omega
      · rw [if_neg (by omega), Array.getElem?_eq_none (by omega)]
  show C'.W = { heap := W.heap ++ _, tape := W.tape, drawn := W.drawn + _, os := W.os, output := W.output }
  rw [hh, hd, ← hf.tape, ← hf.os, ← hf.output]
/-- The library's sort, as a contract: the block's rows are sorted. -/
theorem sort_own {F g : FuncId} {cf : α → α → Int} {T : TypeId} (hent : entersB P F = true) (hk : ∀ x, (enc x).length = k) (hk0 : 0 < k) (h1 : ∀ x, ∀ v ∈ enc x, v.oneCell' = true) (d r : List α) (hlen : r.length = d.length)
    (hnone : ∀ (p : Option Addr) (cap : Nat) (fv : Value) (w : World), Calls P F #[.slice p 0 cap, fv] w fun e w' => e = .returned (.tuple #[]) ∧ w' = w)
    (hsort : ∀ (blk cap : Nat) (w : World), HoldsK enc k w blk 0 d.toArray → blk < w.heap.size → Calls P F #[.slice (some ⟨blk, 0, none⟩) d.length cap, .func (.func g) #[] #[]] w fun e w' =>
      e = .returned (.tuple #[]) ∧ ∃ n os, w' = sortWorldK enc k w blk 0 n r.toArray os)   :
    CallOk P F [.sl 0 k 0 d.length, .clo g []] [(0, ⟨T, k, rowsE enc d, .cells⟩)] (.tup []) [(0, ⟨T, k, rowsE enc r, .cells⟩)] := by
  refine ⟨hent, fun C vs hargs hob hsub hsm => ?_⟩
  obtain ⟨v, w, rfl, hv, hw⟩ := reL2 hargs
  have hrows : ∀ d : List α, RowsOk k (rowsE enc d) := fun d r hr => by
    obtain ⟨x, _, rfl⟩ := List.mem_map.1 hr
    exact ⟨by rw [List.length_map, hk], fun c hc => by obtain ⟨u, hu, rfl⟩ := List.mem_map.1 hc; exact h1 x u hu⟩
  have hO := hob.obs 0 _ rfl
  by_cases h0 : d = []
  · subst h0
    have hv0 : ∃ p cap, v = .slice p 0 cap := by cases hv <;> exact ⟨_, _, rfl⟩
    obtain ⟨p, cap, rfl⟩ := hv0
    have hs0 : r = [] := List.eq_nil_of_length_eq_zero (by rw [hlen]; rfl)
    refine (hnone p cap w C.W).mono ?_
    rintro e W' ⟨he, rfl⟩
    refine ⟨_, C, he, rfl, .tup (cs := []) (vs := []) rfl (fun i h => by simp at h), ?_⟩
    rw [hs0]
    exact ⟨hob, hsub, fun b hb _ => .inl hb, fun nm ob b h2 h3 => .inl ⟨nm, ob, h2, h3⟩, fun nm ob b _ h => h, Fr.refl _ _⟩
  · have hpos : 0 < d.length := List.length_pos_iff.2 h0
    obtain ⟨b, cap, cur, T0, fz0, hb, hc, rfl⟩ : ∃ b cap cur T0 fz, C.ρ 0 = some b ∧ C.W.heap[b]? = some (.cells cur T0 fz) ∧ v = .slice (some ⟨b, 0, none⟩) d.length cap := by
      generalize hn : d.length = n at hv
      cases hv with
      | sl hb hc h2 h3 h4 =>
        rename_i cp bb cc tt ff
        exact ⟨bb, cp, cc, tt, ff, hb, hc, by rw [Nat.zero_mul]⟩
      | sl0 => omega
    have hwv : w = .func (.func g) #[] #[] := by
      cases hw with
      | clo hl h => 
        rename_i vs
        have : vs = [] := List.eq_nil_of_length_eq_zero hl.symm
        subst this; rfl
    subst hwv
    rcases (hO.cells rfl).2 with ⟨h2, _⟩ | ⟨b', cur1, h2, h3, h4, h5⟩
    · rw [hb] at h2; cases h2
    rw [hb] at h2; cases h2
    rw [hc] at h4; cases h4
    simp only at h5
    rw [rowsE_flat, List.length_map] at h5
    have hcur := reL_vals h5
    have hfl := flat_length hk d
    have hle : d.length * k ≤ cur.size := by
      have := congrArg List.length hcur
      have hcl : cur.toList.length = cur.size := Array.length_toList
      rw [List.length_take, hfl] at this
      omega
    have hcell : ∀ j, j < d.length * k → cur[j]? = some (flatK enc k d.toArray)[j]! := fun j hj => by
      rw [← flatK_get hk d hj, ← hcur, List.getElem?_take, if_pos (by rw [hfl]; exact hj), Array.getElem?_toList]
    have hH : HoldsK enc k C.W b 0 d.toArray := by
      intro j hj
      rw [size_flatK] at hj
      constructor
      · show (match C.W.heap[b]? with | some (.cells c _ _) => if (none : Option _).isSome then none else c[0 + j]? | _ => none) = _
        rw [hc]
        simp only [Option.isSome_none, Bool.false_eq_true, if_false, Nat.zero_add]
        exact hcell j (by simpa using hj)
      · show (match C.W.heap[b]? with | some (.cells _ _ (lo, hi)) => decide (lo ≤ 0 + j) && decide (0 + j < hi) | _ => false) = false
        rw [hc]
        simp
    refine (hsort b cap C.W hH (Array.getElem?_eq_some_iff.1 hc).1).mono ?_
    rintro e W' ⟨he, n, os, rfl⟩
    obtain ⟨m1, m2, m3⟩ := modify_heap hc (putCells id 0 (flatK enc k r.toArray)) os n
    have hfr : Fr (owned C [(0, ⟨T, k, rowsE enc d, .cells⟩)]) C.W (sortWorldK enc k C.W b 0 n r.toArray os) := by
      refine ⟨rfl, rfl, rfl, Nat.le_add_right _ _, m3, fun c hc' hn => m2 c hc' (fun e => hn ⟨0, _, rfl, e ▸ hb⟩), fun c cur' T' fz' hcc => ?_⟩
      by_cases e : c = b
      · subst e
        rw [hc] at hcc; cases hcc
        exact ⟨_, _, m1, by simp [putCells]⟩
      · exact ⟨cur', fz', (m2 c (Array.getElem?_eq_some_iff.1 hcc).1 e).trans hcc, rfl⟩
    refine ⟨_, ⟨sortWorldK enc k C.W b 0 n r.toArray os, C.ρ, C.S⟩, he, rfl, .tup (cs := []) (vs := []) rfl (fun i h => by simp at h), ⟨⟨?_, ?_⟩, fun c hc' => Nat.lt_of_lt_of_le (hsub c hc') m3, fun c hc' _ => .inl hc', fun nm ob c g1 g2 => ?_, fun nm ob c _ h => h, hfr⟩⟩
    · intro nm ob hl
      simp only [lookO] at hl
      split at hl
      · next e =>
        cases hl; subst e
        refine .of_cells rfl (hrows _) (.inr ⟨b, _, hb, h3, m1, ?_⟩)
        simp only
        rw [rowsE_flat, List.length_map]
        have hfl2 := flat_length hk r
        rw [hlen] at hfl2
        have : ((putCells id 0 (flatK enc k r.toArray) cur).toList.take (r.flatMap enc).length) = r.flatMap enc := by
          apply List.ext_getElem?
          intro j
          rw [List.getElem?_take, hfl2]
          by_cases hj : j < d.length * k
          · rw [if_pos hj, Array.getElem?_toList, flatK_get hk r (by rw [hlen]; exact hj)]
            simp only [putCells, Array.getElem?_mapIdx]
            rw [Array.getElem?_eq_getElem (by omega)]
            simp only [Option.map_some, size_flatK, Nat.zero_le, true_and, Nat.zero_add, Nat.sub_zero, id]
            rw [if_pos (by simpa [hlen] using hj)]
          · rw [if_neg hj, List.getElem?_eq_none (by rw [hfl2]; omega)]
        rw [this]
        exact vals_reL _
      · cases hl
    · intro nm nm' c ob ob' g1 g2 g3 g4
      simp only [lookO] at g1 g2
      split at g1
      · split at g2
        · omega
        · cases g2
      · cases g1
    · simp only [lookO] at g1
      split at g1
      · next e => subst e; exact .inl ⟨0, _, rfl, g2⟩
      · cases g1
/-- .. of none. -/
theorem sort_none {F g : FuncId} {sz : Nat} (hent : entersB P F = true)
    (hnone : ∀ (p : Option Addr) (cap : Nat) (fv : Value) (w : World), Calls P F #[.slice p 0 cap, fv] w fun e w' => e = .returned (.tuple #[]) ∧ w' = w) : CallOk P F [.rd sz [], .clo g []] [] (.tup []) [] := by
  refine ⟨hent, fun C vs hargs hob hsub hsm => ?_⟩
  obtain ⟨v, w, rfl, hv, hw⟩ := reL2 hargs
  have hv0 : ∃ p cap, v = .slice p 0 cap := by cases hv <;> exact ⟨_, _, rfl⟩
  obtain ⟨p, cap, rfl⟩ := hv0
  refine (hnone p cap w C.W).mono ?_
  rintro e W' ⟨he, rfl⟩
  exact ⟨_, C, he, rfl, .tup (cs := []) (vs := []) rfl (fun i h => by simp at h), ⟨hob, hsub, fun b hb _ => .inl hb, fun nm ob b h2 h3 => (by cases h2), fun nm ob b _ h => h, Fr.refl _ _⟩⟩
end
end Go.Proofs.Ythijmjglpcljcaa.Sy
