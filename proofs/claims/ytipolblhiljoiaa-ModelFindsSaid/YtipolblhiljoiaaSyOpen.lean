/- Sy: how a row's data read as plain values. -/
import Derived.Test.YtipolblhiljoiaaSyKit
import Derived.OpenShut
import Derived.ChangeArms
import Derived.DataReads
namespace Go.Proofs.Ytipolblhiljoiaa.Sy
open Go Go.RowKit
set_option linter.unusedVariables false
set_option linter.unusedSimpArgs false
/-- All that lies there is shared. -/
abbrev C0 (w : World) : Cx := ⟨w, fun _ => none, fun b => b < w.heap.size⟩
/-- Whatever data of type t read in a world, its cells are some a's, of which B holds. -/
def OpensP (P : Program) (t : TypeId) {α : Type} (pv : α → List PV) (B : α → Prop) : Prop :=
  ∀ {H : Type} {enc : TypeId × Value → H} {w : World} {base : Nat} {spare : Nat → Bool} {held : Bool} {fuel : Nat} {cs : List Value} {x : DataW H × List MemPlace},
    DataW.trod enc P w base spare held fuel t cs = some x → ∃ a, B a ∧ ReL (C0 w) (pv a) cs
variable {P : Program}
theorem op_int {t : TypeId} {k : IntKind} (ht : P.underlying t = some (.int k)) : OpensP P t (fun n => [.val (.int k n)]) (fun n => (Lit.int k n).wf = true) := by
  intro H enc w base spare held fuel cs x h
  obtain ⟨n, rfl, _, hw⟩ := DataW.trod_int ht h
  exact ⟨n, hw, .cons (.val _) (.nil _)⟩
theorem op_string {t : TypeId} (ht : P.underlying t = some .string) : OpensP P t (fun s => [.val (.string s)]) (fun s => s.size ≤ maxLen) := by
  intro H enc w base spare held fuel cs x h
  obtain ⟨s, rfl, _, hs⟩ := DataW.trod_string ht h
  exact ⟨s, hs, .cons (.val _) (.nil _)⟩
theorem flatten_get {sz : Nat} (hz : 0 < sz) : ∀ {rows : List (List PV)} {t : Nat}, (∀ r ∈ rows, r.length = sz) → t < rows.length * sz → ∃ (h1 : t / sz < rows.length) (h2 : t % sz < rows[t / sz].length), rows.flatten[t]? = some (rows[t / sz][t % sz])
  | [], t, _, h => by simp at h
  | r :: rows, t, hr, h => by
    have hrl := hr r List.mem_cons_self
    by_cases ht : t < sz
    · have e1 : t / sz = 0 := Nat.div_eq_of_lt ht
      have e2 : t % sz = t := Nat.mod_eq_of_lt ht
      refine ⟨by rw [e1]; simp, by simp only [e1, e2, List.getElem_cons_zero]; omega, ?_⟩
      simp only [e1, e2, List.getElem_cons_zero, List.flatten_cons]
      rw [List.getElem?_append_left (by omega), List.getElem?_eq_getElem (by omega)]
    · obtain ⟨u, rfl⟩ : ∃ u, t = sz + u := ⟨t - sz, by omega⟩
      rw [List.length_cons, Nat.succ_mul] at h
      obtain ⟨h1, h2, h3⟩ := flatten_get hz (rows := rows) (t := u) (fun x hx => hr x (List.mem_cons_of_mem _ hx)) (by omega)
      have e1 : (sz + u) / sz = u / sz + 1 := Nat.add_div_left _ hz
      have e2 : (sz + u) % sz = u % sz := Nat.add_mod_left _ _
      refine ⟨by rw [e1, List.length_cons]; omega, by simp only [e1, e2, List.getElem_cons_succ]; exact h2, ?_⟩
      simp only [e1, e2, List.getElem_cons_succ, List.flatten_cons]
      rw [List.getElem?_append_right (by omega), hrl, Nat.add_sub_cancel_left]
      exact h3
theorem op_slice {α : Type} {t e sz : Nat} {pv : α → List PV} {B : α → Prop} (ht : P.underlying t = some (.slice e)) (hsz : P.cellsOf e = sz) (hz : 0 < sz) (hrow : ∀ a, RowOk sz (pv a)) (he : OpensP P e pv B) :
    OpensP P t (fun l : List α => [.rd sz (l.map pv)]) (fun l => l.length ≤ maxLen ∧ ∀ a ∈ l, B a) := by
  intro H enc w base spare held fuel cs x h
  rcases DataW.trod_slice ht h with ⟨rfl, _⟩ | ⟨ad, len, cap, elems, rest, n, _, rfl, _, hb, hl, hm, hlen, hel, _⟩
  · exact ⟨[], by simp, .cons .rd0 (.nil _)⟩
  · rw [hsz] at hel
    have each : ∀ i, i < len → ∃ (a : α) (c : List Value), B a ∧ ReL (C0 w) (pv a) c ∧ c.length = sz ∧ ∀ j, j < sz → w.cell? ((ad.add (i * sz)).add j) = c[j]? := by
      intro i hi
      have h1 := hel i hi
      rw [List.getElem?_eq_getElem (by omega)] at h1
      obtain ⟨c, hc, ht2⟩ := Option.bind_eq_some_iff.1 h1
      obtain ⟨a, hB, hK⟩ := he ht2
      obtain ⟨_, hcl, hcc⟩ := World.cells?_some hc
      exact ⟨a, c, hB, hK, hcl, hcc⟩
    have list : ∀ m, m ≤ len → ∃ xs : List α, xs.length = m ∧ ∀ i (hi : i < xs.length), ∃ c : List Value, B xs[i] ∧ ReL (C0 w) (pv xs[i]) c ∧ c.length = sz ∧ ∀ j, j < sz → w.cell? ((ad.add (i * sz)).add j) = c[j]? := by
      intro m
      induction m with
      | zero => exact fun _ => ⟨[], rfl, fun i hi => by simp at hi⟩
      | succ m ih =>
        intro hm1
        obtain ⟨xs, hxl, hxs⟩ := ih (by omega)
        obtain ⟨a, c, hB, hK⟩ := each m (by omega)
        refine ⟨xs ++ [a], by simp [hxl], fun i hi => ?_⟩
        by_cases e : i < xs.length
        · rw [List.getElem_append_left e]; exact hxs i e
        · simp at hi
          obtain rfl : i = m := by omega
          simp only [List.getElem_append_right (show xs.length ≤ i by omega), hxl, Nat.sub_self, List.getElem_singleton]
          exact ⟨c, hB, hK⟩
    obtain ⟨xs, hxl, hxs⟩ := list len (Nat.le_refl _)
    refine ⟨xs, ⟨by omega, fun a ha => ?_⟩, ?_⟩
    · obtain ⟨i, hi, rfl⟩ := List.getElem_of_mem ha
      obtain ⟨c, hB, _⟩ := hxs i hi
      exact hB
    · refine .cons ?_ (.nil _)
      have hrl : ∀ r ∈ xs.map pv, r.length = sz := fun r hr => by obtain ⟨a, _, rfl⟩ := List.mem_map.1 hr; exact (hrow a).1
      have hro : RowsOk sz (xs.map pv) := fun r hr => by obtain ⟨a, _, rfl⟩ := List.mem_map.1 hr; exact hrow a
      have hfl := flatten_length hro
      by_cases h0 : xs = []
      · subst h0
        simp at hxl
        subst hxl
        exact .rd0
      · have hpos : 0 < xs.length := List.length_pos_iff.2 h0
        obtain ⟨b, o, sp⟩ := ad
        have hall : ∀ i (hi : i < xs.length) (j : Nat), j < sz → ∃ v, w.cell? (((⟨b, o, sp⟩ : Addr).add (i * sz)).add j) = some v ∧ ∀ (h2 : j < (pv xs[i]).length), Re (C0 w) (pv xs[i])[j] v := by
          intro i hi j hj
          obtain ⟨c, _, hK, hcl, hc⟩ := hxs i hi
          refine ⟨c[j], by rw [hc j hj, List.getElem?_eq_getElem], fun h2 => hK.2 j h2 (by omega)⟩
        have hsp : sp = none := by
          obtain ⟨v, hv, _⟩ := hall 0 hpos 0 hz
          unfold World.cell? at hv
          split at hv
          · split at hv
            · cases hv
            · rename_i hs; cases sp with | none => rfl | some _ => simp [Addr.add] at hs
          · cases hv
        subst hsp
        have hadd : ∀ i j, (((⟨b, o, none⟩ : Addr).add (i * sz)).add j) = ⟨b, o + (i * sz + j), none⟩ := fun i j => by rw [add_plain, add_plain, Nat.add_assoc]
        obtain ⟨cur, T, fz, hbk⟩ : ∃ cur T fz, w.heap[b]? = some (.cells cur T fz) := by
          obtain ⟨v, hv, _⟩ := hall 0 hpos 0 hz
          rw [hadd] at hv
          unfold World.cell? at hv
          split at hv
          · rename_i c T fz hh; exact ⟨c, T, fz, hh⟩
          · cases hv
        have hat : ∀ t, t < xs.length * sz → ∃ v, cur[o + t]? = some v ∧ ∀ (h1 : t < (xs.map pv).flatten.length), Re (C0 w) (xs.map pv).flatten[t] v := by
          intro t ht'
          obtain ⟨g1, g2, g3⟩ := flatten_get hz hrl (t := t) (by simpa using ht')
          have hi : t / sz < xs.length := by simpa using g1
          obtain ⟨v, hv, hre⟩ := hall (t / sz) hi (t % sz) (Nat.mod_lt _ hz)
          rw [hadd, Nat.div_add_mod'] at hv
          unfold World.cell? at hv
          simp only [hbk] at hv
          refine ⟨v, by simpa using hv, fun h1 => ?_⟩
          rw [List.getElem?_eq_getElem h1] at g3
          rw [Option.some.inj g3]
          simp only [List.getElem_map] at g2 ⊢
          exact hre g2
        have hfl' : (xs.map pv).flatten.length = xs.length * sz := by rw [hfl, List.length_map]
        have hL : 0 < xs.length * sz := Nat.mul_pos hpos hz
        have hsize : o + xs.length * sz ≤ cur.size := by
          obtain ⟨v, hv, _⟩ := hat (xs.length * sz - 1) (by omega)
          have := (Array.getElem?_eq_some_iff.1 hv).1
          omega
        have hcl : cur.toList.length = cur.size := Array.length_toList
        have hre := Re.rd (C := C0 w) (sz := sz) (rows := xs.map pv) (b := b) (o := o) (cap := cap) (cur := cur) (T := T) (fz := fz) (Array.getElem?_eq_some_iff.1 hbk).1 hbk hro rfl (by simp; omega) (by
          rw [List.length_take, List.length_drop]; omega) (fun i h1 h2 => by
          obtain ⟨v, hv, hr⟩ := hat i (by omega)
          have : ((cur.toList.drop o).take (xs.map pv).flatten.length)[i] = v := by
            rw [List.getElem_take, List.getElem_drop, Array.getElem_toList]
            rw [Array.getElem?_eq_getElem (by omega)] at hv
            exact Option.some.inj hv
          rw [this]
          exact hr h1)
        rw [List.length_map, hxl] at hre
        exact hre
theorem chunks {α : Type} {C : Cx} {sz : Nat} {pv : α → List PV} {B : α → Prop} : ∀ (n : Nat) (cs : List Value), cs.length = n * sz → (∀ i, i < n → ∃ a, B a ∧ ReL C (pv a) ((cs.drop (i * sz)).take sz)) → ∃ l : List α, l.length = n ∧ (∀ a ∈ l, B a) ∧ ReL C (l.flatMap pv) cs
  | 0, cs, h, _ => by
    have : cs = [] := List.eq_nil_of_length_eq_zero (by omega)
    subst this
    exact ⟨[], rfl, by simp, .nil _⟩
  | n + 1, cs, h, hc => by
    rw [Nat.succ_mul] at h
    obtain ⟨a, ha, hr⟩ := hc 0 (by omega)
    simp only [Nat.zero_mul, List.drop_zero] at hr
    obtain ⟨l, hl, hB, hR⟩ := chunks (C := C) (sz := sz) (pv := pv) (B := B) n (cs.drop sz) (by rw [List.length_drop]; omega) (fun i hi => by
      have := hc (i + 1) (by omega)
      rw [Nat.succ_mul, Nat.add_comm] at this
      rw [List.drop_drop]
      exact this)
    refine ⟨a :: l, by simp [hl], fun x hx => ?_, ?_⟩
    · rcases List.mem_cons.1 hx with rfl | hx
      · exact ha
      · exact hB x hx
    · rw [List.flatMap_cons, ← List.take_append_drop sz cs]
      exact hr.append hR
theorem op_array {α : Type} {t e sz n : Nat} {pv : α → List PV} {B : α → Prop} (ht : P.underlying t = some (.array n e)) (hsz : P.cellsOf e = sz) (hst : P.cellsOf t = n * sz) (he : OpensP P e pv B) :
    OpensP P t (fun l : List α => l.flatMap pv) (fun l => l.length = n ∧ ∀ a ∈ l, B a) := by
  intro H enc w base spare held fuel cs x h
  obtain ⟨xs, m, _, _, hcl, hxl, hx⟩ := DataW.trod_array ht h
  rw [hsz] at hx
  obtain ⟨l, h1, h2, h3⟩ := chunks (C := C0 w) (sz := sz) (pv := pv) (B := B) n cs (by rw [hcl, hst]) (fun i hi => by
    have := hx i hi
    rw [List.getElem?_eq_getElem (by omega)] at this
    exact he this)
  exact ⟨l, ⟨h1, h2⟩, h3⟩
theorem OpensP.map {α β : Type} {t : TypeId} {pv : α → List PV} {B : α → Prop} {pv' : β → List PV} {B' : β → Prop} (h : OpensP P t pv B) (f : ∀ a, B a → ∃ b, B' b ∧ pv' b = pv a) : OpensP P t pv' B' := by
  intro H enc w base spare held fuel cs x hx
  obtain ⟨a, ha, hr⟩ := h hx
  obtain ⟨b, hb, e⟩ := f a ha
  exact ⟨b, hb, by rw [e]; exact hr⟩
end Go.Proofs.Ytipolblhiljoiaa.Sy
