/- Sy: slices.Sort and slices.Compact of texts, as contracts: the block's rows. -/
import Derived.Test.YtipolblhiljoiaaSyShelf
import Derived.Test.YtipolblhiljoiaaSyInt
import Derived.Test.YtipolblhiljoiaaSyStrs
import Derived.Test.YtipolblhiljoiaaSyTab
import Derived.Lib.Builder
namespace Go.Proofs.Ytipolblhiljoiaa.Sy
open Go Go.RowKit Go.Sort
set_option linter.unusedVariables false
set_option linter.unusedSimpArgs false
theorem modify_heapS {W : World} {b : Nat} {cur : Array Value} {T : TypeId} {fz : Nat × Nat} (h : W.heap[b]? = some (.cells cur T fz)) (f : Array Value → Array Value) (os : Array Obj) (n : Nat) :
    (grow (mapBlock (Sort.ahead W n) b f) os).heap[b]? = some (.cells (f cur) T fz) ∧ (∀ c, c < W.heap.size → c ≠ b → (grow (mapBlock (Sort.ahead W n) b f) os).heap[c]? = W.heap[c]?) ∧ W.heap.size ≤ (grow (mapBlock (Sort.ahead W n) b f) os).heap.size := by
  have hlt := (Array.getElem?_eq_some_iff.1 h).1
  have hs : (mapBlock (Sort.ahead W n) b f).heap.size = W.heap.size := by simp [mapBlock, Sort.ahead]
  refine ⟨?_, fun c hc hne => ?_, ?_⟩
  · show ((mapBlock (Sort.ahead W n) b f).heap ++ os)[b]? = _
    rw [Array.getElem?_append_left (by rw [hs]; exact hlt)]
    show (W.heap.modify b (onCells f))[b]? = _
    rw [Array.getElem?_modify, if_pos rfl, h]; rfl
  · show ((mapBlock (Sort.ahead W n) b f).heap ++ os)[c]? = _
    rw [Array.getElem?_append_left (by rw [hs]; exact hc)]
    show (W.heap.modify b (onCells f))[c]? = _
    rw [Array.getElem?_modify, if_neg (fun e => hne e.symm)]
  · show _ ≤ ((mapBlock (Sort.ahead W n) b f).heap ++ os).size
    rw [Array.size_append, hs]; omega
abbrev ofB (l : List ByteArray) : List (List UInt8) := l.map fun s => s.data.toList
abbrev toB (l : List (List UInt8)) : List ByteArray := l.map fun s => ⟨s.toArray⟩
theorem toB_ofB (l : List ByteArray) : toB (ofB l) = l := by
  induction l with
  | nil => rfl
  | cons x l ih => simp only [toB, ofB, List.map_cons] at ih ⊢; rw [ih]
theorem strs_flat (l : List ByteArray) : (strs l).flatten = l.map fun s => PV.val (.string s) := by
  induction l with
  | nil => rfl
  | cons x l ih => show [PV.val (.string x)] ++ (strs l).flatten = _; rw [ih]; rfl
theorem strs_rowsOk (l : List ByteArray) : RowsOk 1 (strs l) := by simp
abbrev strO (l : List ByteArray) : Ob := ⟨9, 1, strs l, .cells⟩
theorem reL_strs {C : Cx} : ∀ {l : List ByteArray} {vs : List Value}, ReL C (l.map fun s => PV.val (.string s)) vs → vs = l.map fun s => .string s
  | [], vs, h => List.eq_nil_of_length_eq_zero (by simpa using h.1.symm)
  | v :: l, [], h => by have := h.1; simp at this
  | v :: l, w :: vs, h => by
    obtain ⟨h1, h2⟩ := ReL.head (by simpa using h)
    cases h1
    rw [reL_strs h2]; rfl
theorem strs_reL {C : Cx} : ∀ (l : List ByteArray), ReL C (l.map fun s => PV.val (.string s)) (l.map fun s => Value.string s)
  | [] => .nil C
  | v :: l => .cons (.val _) (strs_reL l)
/-- What a block of texts holds. -/
theorem strs_at {C : Cx} {l : List ByteArray} {b : Nat} (h : ObOk C 0 (strO l)) (hb : C.ρ 0 = some b) : ∃ cur : Array Value, ¬ C.S b ∧ C.W.heap[b]? = some (.cells cur 9 (0, 0)) ∧ l.length ≤ cur.size ∧ ∀ (j : Nat) (x : ByteArray), l[j]? = some x → cur[j]? = some (Value.string x) := by
  rcases (h.cells rfl).2 with ⟨h1, _⟩ | ⟨b', cur, h1, h2, h3, h4⟩
  · rw [hb] at h1; cases h1
  · rw [hb] at h1; cases h1
    simp only at h4
    rw [strs_flat, List.length_map] at h4
    have hcur := reL_strs h4
    have hle : l.length ≤ cur.size := by
      have := congrArg List.length hcur
      have hcl : cur.toList.length = cur.size := Array.length_toList
      rw [List.length_take, List.length_map] at this
      omega
    refine ⟨cur, h2, h3, hle, fun j x hx => ?_⟩
    have hj := (List.getElem?_eq_some_iff.1 hx).1
    have := congrArg (fun L => L[j]?) hcur
    simp only [List.getElem?_take, if_pos hj, Array.getElem?_toList, List.getElem?_map, hx, Option.map_some] at this
    exact this
theorem holds_strs {w : World} {b : Nat} {cur : Array Value} {l : List ByteArray} (hc : w.heap[b]? = some (.cells cur 9 (0, 0))) (h : ∀ (j : Nat) (x : ByteArray), l[j]? = some x → cur[j]? = some (Value.string x)) : Holds encStr w b 0 (ofB l).toArray := by
  intro j hj
  have hj' : j < l.length := by simpa using hj
  constructor
  · rw [Lib.cell_of_heap hc, Nat.zero_add, h j l[j] (List.getElem?_eq_getElem hj')]
    rw [getElem!_pos _ j hj]
    simp [encStr]
  · exact Lib.frozen_of_heap hc _
/-- A block of texts gets others, as many. -/
theorem post_strs {C : Cx} {b n : Nat} {os : Array Obj} {cur : Array Value} {l r : List ByteArray} (hsub : ∀ b, C.S b → b < C.W.heap.size) (hb : C.ρ 0 = some b) (hS : ¬ C.S b) (hc : C.W.heap[b]? = some (.cells cur 9 (0, 0))) (hle : l.length ≤ cur.size) (hlen : r.length = l.length) :
    PostOk C [(0, strO l)] ⟨grow (putRow encStr (Sort.ahead C.W n) b 0 (ofB r).toArray) os, C.ρ, C.S⟩ [(0, strO r)] := by
  obtain ⟨m1, m2, m3⟩ := modify_heapS hc (putCells encStr 0 (ofB r).toArray) os n
  have hfr : Fr (owned C [(0, strO l)]) C.W (grow (putRow encStr (Sort.ahead C.W n) b 0 (ofB r).toArray) os) := by
    refine ⟨rfl, rfl, rfl, Nat.le_add_right _ _, m3, fun c hc' hn => m2 c hc' (fun e => hn ⟨0, _, rfl, e ▸ hb⟩), fun c cur' T' fz' hcc => ?_⟩
    by_cases e : c = b
    · subst e
      rw [hc] at hcc; cases hcc
      exact ⟨_, _, m1, by simp [putCells]⟩
    · exact ⟨cur', fz', (m2 c (Array.getElem?_eq_some_iff.1 hcc).1 e).trans hcc, rfl⟩
  refine ⟨⟨?_, ?_⟩, fun c hc' => Nat.lt_of_lt_of_le (hsub c hc') m3, fun c hc' _ => .inl hc', fun nm ob c g1 g2 => ?_, fun nm ob c _ h => h, hfr⟩
  · intro nm ob hl
    simp only [lookO] at hl
    split at hl
    · next e =>
      cases hl; subst e
      refine .of_cells rfl (strs_rowsOk _) (.inr ⟨b, _, hb, hS, m1, ?_⟩)
      simp only
      rw [strs_flat, List.length_map]
      have : ((putCells encStr 0 (ofB r).toArray cur).toList.take r.length) = r.map fun s => Value.string s := by
        apply List.ext_getElem?
        intro j
        rw [List.getElem?_take]
        by_cases hj : j < r.length
        · rw [if_pos hj, Array.getElem?_toList, List.getElem?_map, List.getElem?_eq_getElem hj]
          simp only [putCells, Array.getElem?_mapIdx]
          rw [Array.getElem?_eq_getElem (by omega)]
          have hj2 : j < (ofB r).toArray.size := by simpa using hj
          simp only [Option.map_some, Nat.zero_le, true_and, Nat.zero_add, Nat.sub_zero]
          rw [if_pos hj2, getElem!_pos _ j hj2]
          simp [encStr]
        · rw [if_neg hj, List.getElem?_eq_none (by rw [List.length_map]; omega)]
      rw [this]
      exact strs_reL _
    · cases hl
  · intro nm nm' c ob ob' g1 g2 g3 g4
    simp only [lookO] at g1 g2
    split at g1
    · split at g2
      · omega
      · cases g2
    · cases g1
  · simp only [lookO] at g1
    split at g1
    · next e => subst e; exact .inl ⟨0, _, rfl, g2⟩
    · cases g1
def sortB (l : List ByteArray) : List ByteArray := toB ((ofB l).mergeSort fun x y => decide (x ≤ y))
theorem sortB_length (l : List ByteArray) : (sortB l).length = l.length := by simp [sortB, List.length_mergeSort]
theorem ofB_toB (l : List (List UInt8)) : ofB (toB l) = l := by
  induction l with
  | nil => rfl
  | cons x l ih => simp only [toB, ofB, List.map_cons] at ih ⊢; rw [ih]
theorem sl_at {C : Cx} {n : Nat} {v : Value} (h : Re C (.sl 0 1 0 n) v) (h0 : 0 < n) : ∃ b cap cur T fz, C.ρ 0 = some b ∧ C.W.heap[b]? = some (.cells cur T fz) ∧ n ≤ cap ∧ cap ≤ maxLen ∧ cap ≤ cur.size ∧ v = .slice (some ⟨b, 0, none⟩) n cap := by
  cases h with
  | sl hb hc h2 h3 h4 => exact ⟨_, _, _, _, _, hb, hc, h2, h3, by omega, by rw [Nat.zero_mul]⟩
  | sl0 => omega
theorem Sort_call {l : List ByteArray} (h0 : 0 < l.length) (hl : l.length < 4611686018427387904) : CallOk Try.prog 73 [.sl 0 1 0 l.length] [(0, strO l)] (.tup []) [(0, strO (sortB l))] := by
  refine ⟨enters_73, fun C vs hargs hob hsub hsm => ?_⟩
  obtain ⟨v, rfl, hv⟩ := reL1 hargs
  obtain ⟨b, cap, cur0, T0, fz0, hb, hc0, hcap, hmax, hfit, rfl⟩ := sl_at hv h0
  obtain ⟨cur, hS, hc, hle, hcell⟩ := strs_at (hob.obs 0 _ rfl) hb
  have hh := holds_strs hc hcell
  have hcall := Try.slices_Sort_string b 0 cap (ofB l) C.W hh (Array.getElem?_eq_some_iff.1 hc).1 (by simpa using hl)
  rw [List.length_map] at hcall
  refine hcall.mono ?_
  rintro e W' ⟨he, n, os, rfl⟩
  have hp := post_strs (n := n) (os := os) (r := sortB l) hsub hb hS hc hle (sortB_length l)
  rw [sortB, ofB_toB] at hp
  exact ⟨_, _, he, rfl, .tup (cs := []) (vs := []) rfl (fun i h => by simp at h), hp⟩
def compactB (l : List ByteArray) : List ByteArray := toB (Lib.compact (ofB l))
theorem Compact_call {l : List ByteArray} (h0 : 0 < l.length) (hl : l.length ≤ 9223372036854775807) (hk : (compactB l).length ≤ l.length) : CallOk Try.prog 74 [.sl 0 1 0 l.length] [(0, strO l)] (.sl 0 1 0 (compactB l).length) [(0, strO (compactB l ++ List.replicate (l.length - (compactB l).length) ⟨#[]⟩))] := by
  refine ⟨enters_74, fun C vs hargs hob hsub hsm => ?_⟩
  obtain ⟨v, rfl, hv⟩ := reL1 hargs
  obtain ⟨b, cap, cur0, T0, fz0, hb, hc0, hcap, hmax, hfit, rfl⟩ := sl_at hv h0
  obtain ⟨cur, hS, hc, hle, hcell⟩ := strs_at (hob.obs 0 _ rfl) hb
  have hfit' : cap ≤ cur.size := by rw [hc] at hc0; cases hc0; exact hfit
  have hh := holds_strs hc hcell
  have hcall := Try.slices_Compact_string b 0 cap (ofB l) C.W hh (by simpa using hl) (by simpa using hcap)
  have e1 : (ofB l).length = l.length := List.length_map _
  have e2 : (Lib.compact (ofB l)).length = (compactB l).length := (List.length_map _).symm
  rw [e1, e2] at hcall
  refine hcall.mono ?_
  rintro e W' ⟨he, n, hW⟩
  have e3 : Lib.compact (ofB l) ++ List.replicate (l.length - (compactB l).length) [] = ofB (compactB l ++ List.replicate (l.length - (compactB l).length) ⟨#[]⟩) := by
    unfold ofB
    rw [List.map_append, List.map_replicate]
    show _ = ofB (compactB l) ++ _
    rw [compactB, ofB_toB]
  have hrl : (compactB l ++ List.replicate (l.length - (compactB l).length) (⟨#[]⟩ : ByteArray)).length = l.length := by rw [List.length_append, List.length_replicate]; omega
  rw [e3] at hW
  generalize compactB l ++ List.replicate (l.length - (compactB l).length) (⟨#[]⟩ : ByteArray) = r at hW hrl ⊢
  have hp := post_strs (n := n) (os := #[]) (r := r) hsub hb hS hc hle hrl
  obtain ⟨m1, m2, m3⟩ := modify_heapS hc (putCells encStr 0 (ofB r).toArray) #[] n
  rw [grow_empty] at hp m1
  have m1' : W'.heap[b]? = some (.cells (putCells encStr 0 (ofB r).toArray cur) 9 (0, 0)) := by rw [hW]; exact m1
  have m3' : cap ≤ (putCells encStr 0 (ofB r).toArray cur).size := by simpa [putCells] using hfit'
  rw [← hW] at hp
  generalize putCells encStr 0 (ofB r).toArray cur = cur' at m1' m3'
  refine ⟨_, ⟨W', C.ρ, C.S⟩, he, rfl, ?_, hp⟩
  exact Re.sl (C := ⟨W', C.ρ, C.S⟩) (nm := 0) (sz := 1) (off := 0) (len := (compactB l).length) (cap := cap) hb m1' (by omega) hmax (by omega)
end Go.Proofs.Ytipolblhiljoiaa.Sy
