/- Sy: a law's parameters, whatever they are, as plain values. -/
import Derived.Test.YtipolblhiljoiaaSyOpen
import Derived.Test.YtipolblhiljoiaaSyInt
namespace Go.Proofs.Ytipolblhiljoiaa.Sy
open Go Go.RowKit
set_option linter.unusedVariables false
set_option linter.unusedSimpArgs false
variable {P : Program}
theorem op_i64 {t : TypeId} (ht : P.underlying t = some (.int .i64)) : OpensP P t (fun n => [.val (.int .i64 n)]) isI64 :=
  OpensP.map (op_int ht) fun n h => ⟨n, by simpa [isI64, Lit.wf, IntKind.min, IntKind.max, IntKind.signed, IntKind.bits] using h, rfl⟩
theorem op_bool {t : TypeId} (ht : P.underlying t = some .bool) : OpensP P t (fun b => [.val (.bool b)]) (fun _ => True) := by
  intro H enc w base spare held fuel cs x h
  obtain ⟨n, rfl, _⟩ := DataW.trod_bool ht h
  exact ⟨n, trivial, .cons (.val _) (.nil _)⟩
theorem op_i64s3 {t e : TypeId} (ht : P.underlying t = some (.array 3 e)) (hsz : P.cellsOf e = 1) (hst : P.cellsOf t = 3) (he : P.underlying e = some (.int .i64)) :
    OpensP P t (fun (x : Int × Int × Int) => [.val (.int .i64 x.1), .val (.int .i64 x.2.1), .val (.int .i64 x.2.2)]) (fun x => isI64 x.1 ∧ isI64 x.2.1 ∧ isI64 x.2.2) :=
  OpensP.map (op_array (n := 3) (sz := 1) ht hsz (by rw [hst]) (op_i64 he)) fun l hl => by
    obtain ⟨hlen, hw⟩ := hl
    match l, hlen, hw with
    | [a, b, c], _, hw => exact ⟨(a, b, c), ⟨hw a (by simp), hw b (by simp), hw c (by simp)⟩, rfl⟩
theorem op_i64s2 {t e : TypeId} (ht : P.underlying t = some (.array 2 e)) (hsz : P.cellsOf e = 1) (hst : P.cellsOf t = 2) (he : P.underlying e = some (.int .i64)) :
    OpensP P t (fun (x : Int × Int) => [.val (.int .i64 x.1), .val (.int .i64 x.2)]) (fun x => isI64 x.1 ∧ isI64 x.2) :=
  OpensP.map (op_array (n := 2) (sz := 1) ht hsz (by rw [hst]) (op_i64 he)) fun l hl => by
    obtain ⟨hlen, hw⟩ := hl
    match l, hlen, hw with
    | [a, b], _, hw => exact ⟨(a, b), ⟨hw a (by simp), hw b (by simp)⟩, rfl⟩
/-- Data of a struct's fields, from one of its cells on. -/
def OpensF (P : Program) (fs : List Field) (off : Nat) {α : Type} (pv : α → List PV) (B : α → Prop) : Prop :=
  ∀ {H : Type} {enc : TypeId × Value → H} {w : World} {base : Nat} {spare : Nat → Bool} {held : Bool} {fuel : Nat} {cs : List Value},
    (∀ f ∈ fs, ∃ x, DataW.trod enc P w base spare held fuel f.type ((cs.drop f.offset).take (P.cellsOf f.type)) = some x) → off ≤ cs.length → cs.length ≤ off + (fs.map fun f => P.cellsOf f.type).sum → ∃ a, B a ∧ ReL (C0 w) (pv a) (cs.drop off)
theorem OpensF.nil (P : Program) (off : Nat) : OpensF P [] off (fun _ : Unit => []) (fun _ => True) := by
  intro H enc w base spare held fuel cs _ h0 h1
  refine ⟨(), trivial, ?_⟩
  simp at h1
  rw [List.drop_of_length_le h1]
  exact .nil _
theorem ReL.len {C : Cx} {ps : List PV} {vs : List Value} (h : ReL C ps vs) : ps.length = vs.length := h.1
theorem OpensF.cons {α β : Type} {f : Field} {fs : List Field} {off sz : Nat} {pv : α → List PV} {B : α → Prop} {pv' : β → List PV} {B' : β → Prop} (hf : f.offset = off) (hs : P.cellsOf f.type = sz) (hl : ∀ a, B a → (pv a).length = sz) (h : OpensP P f.type pv B) (h' : OpensF P fs (off + sz) pv' B') :
    OpensF P (f :: fs) off (fun p : α × β => pv p.1 ++ pv' p.2) (fun p => B p.1 ∧ B' p.2) := by
  intro H enc w base spare held fuel cs hc h0 h1
  obtain ⟨x, hx⟩ := hc f List.mem_cons_self
  obtain ⟨a, ha, hr⟩ := h hx
  rw [hf, hs] at hr
  have hlen := hr.len
  rw [hl a ha, List.length_take, List.length_drop] at hlen
  rw [List.map_cons, List.sum_cons, hs] at h1
  obtain ⟨b, hb, hr'⟩ := h' (fun g hg => hc g (List.mem_cons_of_mem _ hg)) (by omega) (by omega)
  refine ⟨(a, b), ⟨ha, hb⟩, ?_⟩
  have := hr.append hr'
  rwa [← List.drop_drop, List.take_append_drop] at this
theorem op_struct {α : Type} {t : TypeId} {fs : Array Field} {pv : α → List PV} {B : α → Prop} (ht : P.underlying t = some (.struct fs)) (hst : P.cellsOf t = (fs.toList.map fun f => P.cellsOf f.type).sum) (h : OpensF P fs.toList 0 pv B) : OpensP P t pv B := by
  intro H enc w base spare held fuel cs x hx
  obtain ⟨xs, n, rfl, _, hcl, hxl, hxs⟩ := DataW.trod_struct ht hx
  obtain ⟨a, ha, hr⟩ := h (cs := cs) (fun f hf => by
    obtain ⟨i, hi, e⟩ := List.getElem_of_mem hf
    have hi' : i < fs.size := by simpa using hi
    have := hxs i f (by rw [Array.getElem?_eq_getElem hi']; simpa using e)
    rw [List.getElem?_eq_getElem (by omega)] at this
    exact ⟨_, this⟩) (Nat.zero_le _) (by rw [hcl, hst]; omega)
  rw [List.drop_zero] at hr
  exact ⟨a, ha, hr⟩
/-- A parameter of one cell. -/
theorem par_one {H : Type} {enc : TypeId × Value → H} {w : World} {base : Nat} {spare : Nat → Bool} {held : Bool} {t : TypeId} {v : Value} {d : DataW H} {ps : List MemPlace} {α : Type} {pv : α → PV} {B : α → Prop} (h : OpensP P t (fun a => [pv a]) B)
    (hd : DataW.Trod enc P w base spare held t v d ps) (hv : v.cells = #[v]) : ∃ a, B a ∧ Re (C0 w) (pv a) v := by
  obtain ⟨m, hm⟩ := hd
  rw [hv] at hm
  obtain ⟨a, ha, hr⟩ := h hm
  exact ⟨a, ha, hr.head.1⟩
/-- A struct, or an array. -/
theorem par_agg {H : Type} {enc : TypeId × Value → H} {w : World} {base : Nat} {spare : Nat → Bool} {held : Bool} {t : TypeId} {cs : Array Value} {d : DataW H} {ps : List MemPlace} {α : Type} {pv : α → List PV} {B : α → Prop} (h : OpensP P t pv B)
    (hd : DataW.Trod enc P w base spare held t (.agg cs) d ps) : ∃ a, B a ∧ Re (C0 w) (.agg (pv a)) (.agg cs) := by
  obtain ⟨m, hm⟩ := hd
  obtain ⟨a, ha, hr⟩ := h hm
  have := Re.agg (C := C0 w) hr.1 hr.2
  exact ⟨a, ha, by simpa [Value.cells] using this⟩
theorem okWide_agg {w : World} {r : Reach} {base : Nat} {t : TypeId} {v : Value} (h : Value.okWide P w r base t v) (ht : (∃ fs, P.underlying t = some (.struct fs)) ∨ ∃ n e, P.underlying t = some (.array n e)) : ∃ cs, v = .agg cs := by
  unfold Value.okWide at h
  rcases ht with ⟨fs, e⟩ | ⟨n, e', e⟩ <;> rw [e] at h <;> obtain ⟨cs, hc, _⟩ := h <;> exact ⟨cs, hc⟩
end Go.Proofs.Ytipolblhiljoiaa.Sy
