/- Sy: calls, code, regions whose order is drawn, loops, functions, and what simp does in walks. -/
import Derived.Test.YtipolblhiljoiaaSyOne
import Derived.RangeFuncLeaves
import Derived.RangeFuncRecord
import Derived.RangeFuncSeq
import Derived.OrdersIn
namespace Go.Proofs.Ytipolblhiljoiaa.Sy
open Go Go.RowKit
set_option linter.unusedVariables false
set_option linter.unusedSimpArgs false

/-! ### Other names -/
/-- Without names, whatever lies there. -/
def nlB : PV → Bool
  | .val _ => true
  | .rd _ _ => true
  | .rp _ _ _ _ => true
  | .un => true
  | .nl => true
  | .anyB => true
  | .any1 => true
  | _ => false
/-- A method of a pointer. -/
def rnB (π : Nat → Option Nat) (f : FuncId) : List PV → PV
  | [.ref nm sz row off] => match π nm with
    | some m => .bnd f [.ref m sz row off]
    | none => .un
  | cs => if cs.all nlB = true then .bnd f cs else .un
theorem rnB_nl {π : Nat → Option Nat} {f : FuncId} {cs : List PV} (h : cs.all nlB = true) : rnB π f cs = .bnd f cs := by
  unfold rnB
  split
  · simp [nlB] at h
  · rw [if_pos h]
def rn0 (π : Nat → Option Nat) : PV → PV
  | .ref nm sz row off => match π nm with
    | some m => .ref m sz row off
    | none => .un
  | .sl nm sz off len => match π nm with
    | some m => .sl m sz off len
    | none => .un
  | .yld nm => match π nm with
    | some m => .yld m
    | none => .un
  | .mp nm => match π nm with
    | some m => .mp m
    | none => .un
  | .val v => .val v
  | .nl => .nl
  | .anyB => .anyB
  | .any1 => .any1
  | .rd sz rows => .rd sz rows
  | .rp sz rows row off => .rp sz rows row off
  | .clo f cs => if cs.all nlB = true then .clo f cs else .un
  | .bnd f cs => rnB π f cs
  | _ => .un
def rn1 (π : Nat → Option Nat) : PV → PV
  | .agg cs => .agg (cs.map (rn0 π))
  | .clo f cs => .clo f (cs.map (rn0 π))
  | .bnd f cs => .bnd f (cs.map (rn0 π))
  | p => rn0 π p
def rn2 (π : Nat → Option Nat) : PV → PV
  | .tup cs => .tup (cs.map (rn1 π))
  | .clo f cs => .clo f (cs.map (rn1 π))
  | .bnd f cs => .bnd f (cs.map (rn1 π))
  | p => rn1 π p
def noRd0 : PV → Prop
  | .rd _ _ => False
  | .rp _ _ _ _ => False
  | .clo _ _ => False
  | .bnd _ _ => False
  | _ => True
def noRd1 : PV → Prop
  | .agg cs => ∀ c ∈ cs, noRd0 c
  | .clo _ cs => ∀ c ∈ cs, noRd0 c
  | .bnd _ cs => ∀ c ∈ cs, noRd0 c
  | p => noRd0 p
def noRd2 : PV → Prop
  | .tup cs => ∀ c ∈ cs, noRd1 c
  | .clo _ cs => ∀ c ∈ cs, noRd1 c
  | .bnd _ cs => ∀ c ∈ cs, noRd1 c
  | p => noRd1 p
section
variable {C C' : Cx} {π : Nat → Option Nat} {p : PV} {v : Value}
theorem nn_le_of (hW : C'.W = C.W) (hS : ∀ b, C.S b → C'.S b) : C.nn.le C'.nn := by
  refine .mk' hS (fun b _ => ?_) (fun _ _ hh => (by cases hh)) ?_
  · show C'.W.heap[b]? = C.W.heap[b]?; rw [hW]
  · show Shp C.W C'.W; rw [hW]; exact Shp.refl _
theorem Re.nlb (hW : C'.W = C.W) (hS : ∀ b, C.S b → C'.S b) (h : Re C p v) (hp : nlB p = true) : Re C' p v := by
  cases h with
  | val v => exact .val v
  | nl => exact .nl
  | anyB t => exact .anyB t
  | any1 h1 => exact .any1 h1
  | un v => exact .un v
  | rd hb hc hrow hx hcap hl hh => exact .rd (hS _ hb) (by rw [hW]; exact hc) hrow hx hcap hl (fun i h1 h2 => (hh i h1 h2).mono (nn_le_of hW hS))
  | rd0 => exact .rd0
  | rp hb hc hrow hx hl hh => exact .rp (hS _ hb) (by rw [hW]; exact hc) hrow hx hl (fun i h1 h2 => (hh i h1 h2).mono (nn_le_of hW hS))
  | _ => simp [nlB] at hp
theorem Re.rn0 (hW : C'.W = C.W) (hρ : ∀ n m b, π n = some m → C.ρ n = some b → C'.ρ m = some b) (hS : (∀ b, C.S b → C'.S b) ∨ noRd0 p) (h : Re C p v) : Re C' (rn0 π p) v := by
  cases h with
  | val v => exact .val v
  | agg _ _ => exact .un _
  | tup _ _ => exact .un _
  | clo hl hh =>
    simp only [Sy.rn0]
    split
    · rename_i ha
      rcases hS with hS | hS
      · exact .clo hl (fun i h1 h2 => (hh i h1 h2).nlb hW hS (List.all_eq_true.1 ha _ (List.getElem_mem _)))
      · exact hS.elim
    · exact .un _
  | bnd hl hh =>
    rename_i f first vs
    show Re C' (rnB π f first) _
    by_cases hc : ∃ nm sz row off, first = [.ref nm sz row off]
    · obtain ⟨nm, sz, row, off, rfl⟩ := hc
      simp only [Sy.rnB]
      split
      · rename_i m hm
        refine .bnd (by simpa using hl) (fun i h1 h2 => ?_)
        have h0 := hh 0 (by simp) (by rw [← hl]; simp)
        obtain rfl : i = 0 := by simp at h1; omega
        simp only [List.getElem_cons_zero] at h0 ⊢
        generalize vs[0] = w at *
        cases h0 with
        | ref hb => exact .ref (hρ _ _ _ hm hb)
      · exact .un _
    · by_cases ha : first.all nlB = true
      · rw [rnB_nl ha]
        rcases hS with hS | hS
        · exact .bnd hl (fun i h1 h2 => (hh i h1 h2).nlb hW hS (List.all_eq_true.1 ha _ (List.getElem_mem _)))
        · exact hS.elim
      · have : rnB π f first = .un := by
          unfold Sy.rnB
          split
          · exact absurd ⟨_, _, _, _, rfl⟩ hc
          · rw [if_neg ha]
        rw [this]; exact .un _
  | nl => exact .nl
  | anyB t => exact .anyB t
  | any1 h1 => exact .any1 h1
  | cndT h => exact .un _
  | cndF => exact .un _
  | yld hb =>
    simp only [Sy.rn0]
    split
    · rename_i m hm; exact .yld (hρ _ _ _ hm hb)
    · exact .un _
  | mp hb =>
    simp only [Sy.rn0]
    split
    · rename_i m hm; exact .mp (hρ _ _ _ hm hb)
    · exact .un _
  | un v => exact .un v
  | rd hb hc hrow hx hcap hl hh =>
    rcases hS with hS | hS
    · exact .rd (hS _ hb) (by rw [hW]; exact hc) hrow hx hcap hl (fun i h1 h2 => (hh i h1 h2).mono (nn_le_of hW hS))
    · exact hS.elim
  | rd0 => exact .rd0
  | rp hb hc hrow hx hl hh =>
    rcases hS with hS | hS
    · exact .rp (hS _ hb) (by rw [hW]; exact hc) hrow hx hl (fun i h1 h2 => (hh i h1 h2).mono (nn_le_of hW hS))
    · exact hS.elim
  | ref hb =>
    simp only [Sy.rn0]
    split
    · rename_i m hm; exact .ref (hρ _ _ _ hm hb)
    · exact .un _
  | sl hb hc h1 h2 h3 =>
    simp only [Sy.rn0]
    split
    · rename_i m hm; exact .sl (hρ _ _ _ hm hb) (by rw [hW]; exact hc) h1 h2 h3
    · exact .un _
  | sl0 =>
    simp only [Sy.rn0]
    split
    · exact .sl0
    · exact .un _
theorem Re.rn1 (hW : C'.W = C.W) (hρ : ∀ n m b, π n = some m → C.ρ n = some b → C'.ρ m = some b) (hS : (∀ b, C.S b → C'.S b) ∨ noRd1 p) (h : Re C p v) : Re C' (rn1 π p) v := by
  cases p with
  | agg cs =>
    cases h with
    | agg hl hh => exact .agg (by simpa using hl) (fun i h1 h2 => by rw [List.getElem_map]; exact (hh i (by simpa using h1) h2).rn0 hW hρ (hS.imp id (fun h => h _ (List.getElem_mem _))))
  | clo f cs =>
    cases h with
    | clo hl hh => exact .clo (by simpa using hl) (fun i h1 h2 => by rw [List.getElem_map]; exact (hh i (by simpa using h1) h2).rn0 hW hρ (hS.imp id (fun h => h _ (List.getElem_mem _))))
  | bnd f cs =>
    cases h with
    | bnd hl hh => exact .bnd (by simpa using hl) (fun i h1 h2 => by rw [List.getElem_map]; exact (hh i (by simpa using h1) h2).rn0 hW hρ (hS.imp id (fun h => h _ (List.getElem_mem _))))
  | _ =>
    refine Re.rn0 hW hρ ?_ h
    exact hS
theorem Re.rn2 (hW : C'.W = C.W) (hρ : ∀ n m b, π n = some m → C.ρ n = some b → C'.ρ m = some b) (hS : (∀ b, C.S b → C'.S b) ∨ noRd2 p) (h : Re C p v) : Re C' (rn2 π p) v := by
  cases p with
  | tup cs =>
    cases h with
    | tup hl hh => exact .tup (by simpa using hl) (fun i h1 h2 => by rw [List.getElem_map]; exact (hh i (by simpa using h1) h2).rn1 hW hρ (hS.imp id (fun h => h _ (List.getElem_mem _))))
  | clo f cs =>
    cases h with
    | clo hl hh => exact .clo (by simpa using hl) (fun i h1 h2 => by rw [List.getElem_map]; exact (hh i (by simpa using h1) h2).rn1 hW hρ (hS.imp id (fun h => h _ (List.getElem_mem _))))
  | bnd f cs =>
    cases h with
    | bnd hl hh => exact .bnd (by simpa using hl) (fun i h1 h2 => by rw [List.getElem_map]; exact (hh i (by simpa using h1) h2).rn1 hW hρ (hS.imp id (fun h => h _ (List.getElem_mem _))))
  | _ =>
    refine Re.rn1 hW hρ ?_ h
    exact hS
end

/-! ### Lending -/
/-- Without names. -/
def nfP : PV → Prop
  | .val _ => True
  | .rd _ _ => True
  | .rp _ _ _ _ => True
  | .un => True
  | .nl => True
  | .anyB => True
  | .any1 => True
  | .clo _ cs => cs.all nlB = true
  | .bnd _ cs => cs.all nlB = true
  | _ => False
def nfRows (rows : List (List PV)) : Prop := ∀ r ∈ rows, ∀ c ∈ r, nfP c
theorem Re.nf {C C' : Cx} {p : PV} {v : Value} (hW : C'.W = C.W) (hS : ∀ b, C.S b → C'.S b) (h : Re C p v) (hn : nfP p) : Re C'.nn p v := by
  have := h.rn0 (C' := C'.nn) (π := fun _ => none) hW (fun n m b e => by cases e) (.inl hS)
  cases p with
  | clo f cs => simp only [Sy.rn0] at this; rwa [if_pos (show cs.all nlB = true from hn)] at this
  | bnd f cs => simp only [Sy.rn0] at this; rwa [rnB_nl (show cs.all nlB = true from hn)] at this
  | _ => first | exact this | exact hn.elim
def low0 (obs : List (Nat × Ob)) (B : List Nat) : PV → PV
  | .sl nm sz off len => if nm ∈ B then (match lookO obs nm with
    | some o => .rd sz ((o.rows.drop off).take len)
    | none => .un) else .sl nm sz off len
  | .ref nm sz row off => if nm ∈ B then (match lookO obs nm with
    | some o => .rp sz o.rows row off
    | none => .un) else .ref nm sz row off
  | p => p
def low1 (obs : List (Nat × Ob)) (B : List Nat) : PV → PV
  | .agg cs => .agg (cs.map (low0 obs B))
  | .clo f cs => .clo f (cs.map (low0 obs B))
  | .bnd f cs => .bnd f (cs.map (low0 obs B))
  | p => low0 obs B p
def lendOk0 (obs : List (Nat × Ob)) (B : List Nat) : PV → Prop
  | .sl nm sz off len => nm ∈ B → ∀ o, lookO obs nm = some o → o.k = .cells ∧ o.sz = sz ∧ off + len ≤ o.rows.length
  | .ref nm sz row off => nm ∈ B → ∀ o, lookO obs nm = some o → o.k = .cells ∧ o.sz = sz ∧ o.rows ≠ []
  | _ => True
def lendOk1 (obs : List (Nat × Ob)) (B : List Nat) : PV → Prop
  | .agg cs => ∀ c ∈ cs, lendOk0 obs B c
  | .clo _ cs => ∀ c ∈ cs, lendOk0 obs B c
  | .bnd _ cs => ∀ c ∈ cs, lendOk0 obs B c
  | p => lendOk0 obs B p
/-- While names are lent, nobody writes to their blocks. -/
def Cx.lend (C : Cx) (B : List Nat) : Cx := ⟨C.W, C.ρ, fun b => C.S b ∨ ∃ n ∈ B, C.ρ n = some b⟩
theorem Cx.le_lend {C : Cx} {B : List Nat} : C.le (C.lend B) := .mk' (fun _ h => .inl h) (fun _ _ => rfl) (fun _ _ h => h) (Shp.refl _)
section
variable {E : En} {C : Cx} {st : St} {a : Act} {B : List Nat} {p : PV} {v : Value}
theorem Re.low0 (hr : Rel E C st a) (hB : ∀ n ∈ B, ∀ o, lookO st.obs n = some o → nfRows o.rows) (hok : lendOk0 st.obs B p) (h : Re C p v) : Re (C.lend B) (low0 st.obs B p) v := by
  have hm := h.mono (Cx.le_lend (B := B))
  have content : ∀ nm ob, nm ∈ B → lookO st.obs nm = some ob → ∀ (b : Nat) (cur : List Value), ReL C ob.rows.flatten cur → ReL (C.lend B).nn ob.rows.flatten cur := fun nm ob hn ho b cur hh =>
    ⟨hh.1, fun i h1 h2 => Re.nf (C := C) (C' := C.lend B) rfl (fun _ h => Or.inl h) (hh.2 i h1 h2) (by
      obtain ⟨r, hr', hc⟩ := List.mem_flatten.1 (List.getElem_mem h1)
      exact hB nm hn ob ho r hr' _ hc)⟩
  cases p with
  | sl nm sz off len =>
    simp only [Sy.low0]
    split
    · rename_i hn
      cases ho : lookO st.obs nm with
      | none => exact .un _
      | some ob =>
        simp only []
        obtain ⟨hk, hsz, hlen⟩ := hok hn ob ho
        obtain ⟨hrow, hh⟩ := hr.cells ho hk
        rw [hsz] at hrow
        have hll : ((ob.rows.drop off).take len).length = len := by rw [List.length_take, List.length_drop]; omega
        cases h with
        | sl hb hc h1 h2 h3 =>
          rename_i cap b cur T fz
          rcases hh with ⟨hz, _⟩ | ⟨b', cur', hb', hS, hc', hre⟩
          · rw [hb] at hz; cases hz
          · rw [hb] at hb'; cases hb'
            have hre2 := content nm ob hn ho 0 _ hre
            have h4 := (hre2.drop (off * sz)).take (len * sz)
            rw [flatten_drop _ hrow, flatten_take _ (hrow.drop _)] at h4
            have hfl := flatten_length ((hrow.drop off).take len)
            rw [hll] at hfl
            have hfl0 := flatten_length hrow
            have hb2 : off * sz + len * sz ≤ ob.rows.flatten.length := by rw [hfl0, ← Nat.add_mul]; exact Nat.mul_le_mul_right _ hlen
            have e : (((cur'.toList.take ob.rows.flatten.length).drop (off * sz)).take (len * sz)) = (cur'.toList.drop (off * sz)).take (len * sz) := by
              rw [List.drop_take, List.take_take, Nat.min_eq_left (by omega)]
            rw [e] at h4
            have := Re.rdL (C := C.lend B) (sz := sz) (rows := (ob.rows.drop off).take len) (b := b) (p := off * sz) (cap := cap) (.inr ⟨nm, hn, hb⟩) hc' ((hrow.drop _).take _) (by rw [hll]; exact h1) (by rw [hfl]; exact h4)
            rw [hll] at this
            exact this
        | sl0 =>
          have : (ob.rows.drop off).take 0 = [] := by simp
          rw [this]; exact .rd0
    · exact hm
  | ref nm sz row off =>
    simp only [Sy.low0]
    split
    · rename_i hn
      cases ho : lookO st.obs nm with
      | none => exact .un _
      | some ob =>
        simp only []
        obtain ⟨hk, hsz, hne⟩ := hok hn ob ho
        obtain ⟨hrow, hh⟩ := hr.cells ho hk
        rw [hsz] at hrow
        cases h with
        | ref hb =>
          rename_i b
          rcases hh with ⟨hz, h0⟩ | ⟨b', cur', hb', hS, hc', hre⟩
          · exact absurd h0 hne
          · rw [hb] at hb'; cases hb'
            have hre2 := content nm ob hn ho 0 _ hre
            have := Re.rp (C := C.lend B) (sz := sz) (rows := ob.rows) (row := row) (off := off) (b := b) (o := 0) (.inr ⟨nm, hn, hb⟩) hc' hrow rfl (by rw [List.drop_zero]; exact hre2.1) (fun i h1 h2 => by
              have := hre2.2 i h1 (by simpa using h2)
              simpa using this)
            simpa using this
    · exact hm
  | _ => exact hm
theorem Re.low1 (hr : Rel E C st a) (hB : ∀ n ∈ B, ∀ o, lookO st.obs n = some o → nfRows o.rows) (hok : lendOk1 st.obs B p) (h : Re C p v) : Re (C.lend B) (low1 st.obs B p) v := by
  cases p with
  | agg cs =>
    cases h with
    | agg hl hh => exact .agg (by simpa using hl) (fun i h1 h2 => by rw [List.getElem_map]; exact (hh i (by simpa using h1) h2).low0 hr hB (hok _ (List.getElem_mem _)))
  | clo f cs =>
    cases h with
    | clo hl hh => exact .clo (by simpa using hl) (fun i h1 h2 => by rw [List.getElem_map]; exact (hh i (by simpa using h1) h2).low0 hr hB (hok _ (List.getElem_mem _)))
  | bnd f cs =>
    cases h with
    | bnd hl hh => exact .bnd (by simpa using hl) (fun i h1 h2 => by rw [List.getElem_map]; exact (hh i (by simpa using h1) h2).low0 hr hB (hok _ (List.getElem_mem _)))
  | _ =>
    refine Re.low0 hr hB ?_ h
    exact hok
end

/-! ### Contracts -/
structure ObsOk (C : Cx) (l : List (Nat × Ob)) : Prop where
  obs : ∀ nm ob, lookO l nm = some ob → ObOk C nm ob
  inj : ∀ nm nm' b ob ob', lookO l nm = some ob → lookO l nm' = some ob' → C.ρ nm = some b → C.ρ nm' = some b → nm = nm'
def owned (C : Cx) (obs : List (Nat × Ob)) (b : Nat) : Prop := ∃ nm ob, lookO obs nm = some ob ∧ C.ρ nm = some b
structure PostOk (C : Cx) (pre : List (Nat × Ob)) (C' : Cx) (post : List (Nat × Ob)) : Prop where
  obs : ObsOk C' post
  sub : ∀ b, C'.S b → b < C'.W.heap.size
  old : ∀ b, C'.S b → b < C.W.heap.size → C.S b ∨ owned C pre b
  own : ∀ nm ob b, lookO post nm = some ob → C'.ρ nm = some b → owned C pre b ∨ C.W.heap.size ≤ b
  keep : ∀ nm ob b, lookO pre nm = some ob → C.ρ nm = some b → C'.ρ nm = some b
  fr : Fr (owned C pre) C.W C'.W
def entersB (P : Program) (f : FuncId) : Bool := match P.funcs[f]? with
  | some fn => fn.name != "runtime.NumGoroutine" && fn.body.isSome
  | none => false
theorem entersB_run {P : Program} {f : FuncId} (h : entersB P f = true) (args : Array Value) (W : World) : (callFunc f args).run P W = .ok (.enter f args) W := by
  unfold entersB at h
  cases hf : P.funcs[f]? with
  | none => rw [hf] at h; cases h
  | some fn =>
    rw [hf] at h
    simp only [Bool.and_eq_true, bne_iff_ne, ne_eq] at h
    have h2 : fn.body ≠ none := by intro e; rw [e] at h; simp at h
    simp [callFunc, hf, h.1, h2]
/-- How a call ends: it returns, or panics. -/
def endsAs (en : Option (List PanicEntry)) (v : Value) : Ending := match en with
  | none => .returned v
  | some ch => .panicked ch
/-- What a call of f comes to: from values and named blocks (names below 64) to a value and named blocks (names below 8); or to a panic. -/
def CallTo (P : Program) (f : FuncId) (args : List PV) (pre : List (Nat × Ob)) (en : Option (List PanicEntry)) (r : PV) (post : List (Nat × Ob)) : Prop :=
  entersB P f = true ∧ ∀ (C : Cx) (vs : List Value), ReL C args vs → ObsOk C pre → (∀ b, C.S b → b < C.W.heap.size) → (∀ n, 64 ≤ n → C.ρ n = none) →
    Calls P f vs.toArray C.W fun e W' => ∃ v C', e = endsAs en v ∧ C'.W = W' ∧ Re C' r v ∧ PostOk C pre C' post
abbrev CallOk (P : Program) (f : FuncId) (args : List PV) (pre : List (Nat × Ob)) (r : PV) (post : List (Nat × Ob)) : Prop := CallTo P f args pre none r post
/-- A call that panics. -/
abbrev CallPan (P : Program) (f : FuncId) (args : List PV) (pre : List (Nat × Ob)) (ch : List PanicEntry) (post : List (Nat × Ob)) : Prop := CallTo P f args pre (some ch) .un post
end Go.Proofs.Ytipolblhiljoiaa.Sy

namespace Go.Proofs.Ytipolblhiljoiaa.Sy
open Go Go.RowKit
set_option linter.unusedVariables false
set_option linter.unusedSimpArgs false

/-- The other way round: which of the caller's names a contract's name is. -/
def backN (π : List (Nat × Nat)) : Nat → Option Nat := fun j => (π.find? (fun x => x.2 == j)).map (·.1)
def fwdN (π : List (Nat × Nat)) : Nat → Option Nat := fun n => (π.find? (fun x => x.1 == n)).map (·.2)
/-- A contract's name, behind the call: the caller's own, or a new one. -/
def outN (π : List (Nat × Nat)) (new : Nat) : Nat → Option Nat := fun j => match backN π j with
  | some n => some n
  | none => if j < 8 then some (new + j) else none
def rnOb (π : Nat → Option Nat) (o : Ob) : Ob := { o with rows := o.rows.map (List.map (rn0 π)) }
def postU (π : List (Nat × Nat)) (new : Nat) : List (Nat × Ob) → Upd
  | [] => []
  | (j, o) :: r => postU π new r ++ (match outN π new j with
    | some n => [(n, some (rnOb (outN π new) o))]
    | none => [])
def preU (π : List (Nat × Nat)) : Upd := π.map fun x => (x.1, none)

theorem ReL.rn {C C' : Cx} {π : Nat → Option Nat} {ps : List PV} {vs : List Value} (hW : C'.W = C.W) (hρ : ∀ n m b, π n = some m → C.ρ n = some b → C'.ρ m = some b) (hS : (∀ b, C.S b → C'.S b) ∨ ∀ c ∈ ps, noRd0 c) (h : ReL C ps vs) : ReL C' (ps.map (rn0 π)) vs :=
  ⟨by simpa using h.1, fun i h1 h2 => by
    rw [List.getElem_map]
    exact (h.2 i (by simpa using h1) h2).rn0 hW hρ (hS.imp id (fun h => h _ (List.getElem_mem _)))⟩
theorem rows_rn_flatten (π : Nat → Option Nat) : ∀ rows : List (List PV), (rows.map (List.map (rn0 π))).flatten = rows.flatten.map (rn0 π)
  | [] => rfl
  | r :: rows => by rw [List.map_cons, List.flatten_cons, rows_rn_flatten π rows, List.flatten_cons, List.map_append]
theorem rnOb_length (π : Nat → Option Nat) (o : Ob) : (rnOb π o).rows.flatten.length = o.rows.flatten.length := by
  show (o.rows.map (List.map (rn0 π))).flatten.length = _
  rw [rows_rn_flatten, List.length_map]
def noRdRows (rows : List (List PV)) : Prop := ∀ r ∈ rows, ∀ c ∈ r, noRd0 c

theorem applyU_append : ∀ (u v : Upd) (l : List (Nat × Ob)), applyU l (u ++ v) = applyU (applyU l u) v
  | [], v, l => rfl
  | (k, none) :: u, v, l => applyU_append u v (dropO l k)
  | (k, some y) :: u, v, l => applyU_append u v ((k, y) :: dropO l k)
theorem look_postU (π : List (Nat × Nat)) (new : Nat) (k : Nat) (x : Ob) : ∀ (post l : List (Nat × Ob)), lookO (applyU l (postU π new post)) k = some x →
    (∃ j ob, lookO post j = some ob ∧ outN π new j = some k ∧ x = rnOb (outN π new) ob) ∨ lookO l k = some x
  | [], l, h => .inr h
  | (j, o) :: r, l, h => by
    rw [postU, applyU_append] at h
    have skip : lookO (applyU l (postU π new r)) k = some x → outN π new j ≠ some k → (∃ j' ob, lookO ((j, o) :: r) j' = some ob ∧ outN π new j' = some k ∧ x = rnOb (outN π new) ob) ∨ lookO l k = some x := fun h hn => by
      rcases look_postU π new k x r l h with ⟨j', ob, h1, h2, h3⟩ | h
      · refine .inl ⟨j', ob, ?_, h2, h3⟩
        rw [lookO, if_neg (fun e => hn (by rw [e]; exact h2))]; exact h1
      · exact .inr h
    cases hj : outN π new j with
    | none => rw [hj] at h; exact skip h (by rw [hj]; simp)
    | some n =>
      rw [hj] at h
      rw [lookO_applyU] at h
      simp only [updAt] at h
      by_cases e : n = k
      · rw [if_pos e] at h
        refine .inl ⟨j, o, by rw [lookO, if_pos rfl], by rw [hj, e], (Option.some.inj h).symm⟩
      · rw [if_neg e] at h
        exact skip h (by rw [hj]; simp [e])
theorem look_preU (k : Nat) (x : Ob) : ∀ (π : List (Nat × Nat)) (l : List (Nat × Ob)), lookO (applyU l (preU π)) k = some x → fwdN π k = none ∧ lookO l k = some x
  | [], l, h => ⟨rfl, h⟩
  | (n, j) :: π, l, h => by
    have h' : lookO (applyU (dropO l n) (preU π)) k = some x := h
    obtain ⟨h1, h2⟩ := look_preU k x π _ h'
    rw [lookO_dropO] at h2
    split at h2
    · cases h2
    · rename_i e
      refine ⟨?_, h2⟩
      unfold fwdN at *
      rw [List.find?_cons_of_neg (by simpa using e)]; exact h1

/-- What a block that is handed back must be: rows of cells in order, or a map. -/
def postK : OK → Nat → List (List PV) → Prop
  | .cells, sz, rows => RowsOk sz rows
  | .map, _, _ => True
  | .loop _, _, _ => False
/-- What is asked for a call: which names are lent (B), which are handed over (π: the caller's name, the contract's). -/
structure CallFit (st : St) (new : Nat) (xs : List PV) (B : List Nat) (π : List (Nat × Nat)) (args : List PV) (pre : List (Nat × Ob)) (r : PV) (post : List (Nat × Ob)) : Prop where
  argsF : xs.map (fun x => rn2 (fwdN π) (low1 st.obs B x)) = args
  lend : ∀ x ∈ xs, lendOk1 st.obs B x
  nf : ∀ n ∈ B, ∃ o, lookO st.obs n = some o ∧ o.k = .cells ∧ nfRows o.rows
  apart : ∀ n ∈ B, fwdN π n = none
  preF : ∀ j ob, lookO pre j = some ob → ∃ n o, backN π j = some n ∧ lookO st.obs n = some o ∧ ob = rnOb (fwdN π) o ∧ RowsOk ob.sz ob.rows ∧ ob.k = .cells
  small : ∀ n j, fwdN π n = some j → j < 64 ∧ n < new ∧ (lookO pre j).isSome = true
  inj : ∀ n j, backN π j = some n ↔ fwdN π n = some j
  rd : B = [] ∨ noRd2 r ∧ ∀ j ob, lookO post j = some ob → noRdRows ob.rows
  postF : ∀ j ob, lookO post j = some ob → (outN π new j).isSome = true ∧ postK ob.k ob.sz (rnOb (outN π new) ob).rows

section
variable {P : Program} {E : En} {C : Cx} {st : St} {a : Act} {o : Oper} {new : Nat}
theorem live_block (hr : Rel E C st a) {n b : Nat} {ob : Ob} (h1 : lookO st.obs n = some ob) (h2 : C.ρ n = some b) : ¬ C.S b ∧ b < C.W.heap.size :=
  ⟨((hr.obs n ob h1).blk h2).1, (hr.obs n ob h1).lt h2⟩
theorem call_core {xs : List PV} {vs : List Value} {B : List Nat} {π : List (Nat × Nat)} {args : List PV} {pre : List (Nat × Ob)} {r : PV} {post : List (Nat × Ob)}
    (hr : Rel E C st a) (hnew : ∀ k, k < 8 → C.ρ (new + k) = none ∧ lookO st.obs (new + k) = none) (hxs : ReL C xs vs) (hfit : CallFit st new xs B π args pre r post) :
    ∃ Cc : Cx, Cc.W = C.W ∧ ReL Cc args vs ∧ ObsOk Cc pre ∧ (∀ b, Cc.S b → b < Cc.W.heap.size) ∧ (∀ n, 64 ≤ n → Cc.ρ n = none) ∧
      ∀ v C', Re C' r v → PostOk Cc pre C' post → ∃ C2 : Cx, C2.W = C'.W ∧ Re C2 (rn2 (outN π new) r) v ∧ Rel E C2 { st with obs := applyU st.obs (preU π ++ postU π new post) } a ∧ C.le C2 ∧ (∀ k, ¬ (new ≤ k ∧ k < new + 8) → lookO st.obs k = none → C2.ρ k = C.ρ k) := by
  have hB : ∀ n ∈ B, ∀ o, lookO st.obs n = some o → nfRows o.rows := fun n hn o ho => by
    obtain ⟨o', h1, _, h2⟩ := hfit.nf n hn
    rw [ho] at h1; cases h1; exact h2
  -- the contract's own names
  obtain ⟨Cc, hCc⟩ : ∃ Cc : Cx, Cc = ⟨C.W, fun j => (backN π j).bind C.ρ, (C.lend B).S⟩ := ⟨_, rfl⟩
  have hCW : Cc.W = C.W := by rw [hCc]
  have hCρ : ∀ j, Cc.ρ j = (backN π j).bind C.ρ := fun j => by rw [hCc]
  have hCS : ∀ b, Cc.S b ↔ C.S b ∨ ∃ n ∈ B, C.ρ n = some b := fun b => by rw [hCc]; exact Iff.rfl
  have hρ1 : ∀ n m b, fwdN π n = some m → C.ρ n = some b → Cc.ρ m = some b := fun n m b h1 h2 => by
    rw [hCρ, (hfit.inj n m).2 h1]; exact h2
  have hS1 : ∀ b, (C.lend B).S b → Cc.S b := fun b h => (hCS b).2 h
  have hargs : ReL Cc args vs := by
    rw [← hfit.argsF]
    refine ⟨by simpa using hxs.1, fun i h1 h2 => ?_⟩
    rw [List.getElem_map]
    have hi : i < xs.length := by simpa using h1
    refine Re.rn2 (C := C.lend B) hCW hρ1 (.inl hS1) ?_
    exact (hxs.2 i hi h2).low1 hr hB (hfit.lend _ (List.getElem_mem _))
  have preFacts : ∀ j ob b, lookO pre j = some ob → Cc.ρ j = some b → ∃ n ob0, fwdN π n = some j ∧ lookO st.obs n = some ob0 ∧ C.ρ n = some b ∧ ob = rnOb (fwdN π) ob0 := fun j ob b h1 h2 => by
    obtain ⟨n, ob0, h3, h4, h5, _⟩ := hfit.preF j ob h1
    rw [hCρ, h3] at h2
    exact ⟨n, ob0, (hfit.inj n j).1 h3, h4, h2, h5⟩
  have ownedC : ∀ b, owned Cc pre b → ∃ n j ob0, fwdN π n = some j ∧ lookO st.obs n = some ob0 ∧ C.ρ n = some b := fun b ⟨j, ob, h1, h2⟩ => by
    obtain ⟨n, ob0, h3, h4, h5, _⟩ := preFacts j ob b h1 h2
    exact ⟨n, j, ob0, h3, h4, h5⟩
  have hpre : ObsOk Cc pre := by
    refine ⟨fun j ob h => ?_, fun j j' b ob ob' h1 h2 h3 h4 => ?_⟩
    · obtain ⟨n, ob0, h3, h4, h5, h6, hk⟩ := hfit.preF j ob h
      have hk0 : ob0.k = .cells := by rw [h5] at hk; exact hk
      refine .of_cells hk h6 ?_
      have hnj := (hfit.inj n j).1 h3
      rcases (hr.cells h4 hk0).2 with ⟨h8, h9⟩ | ⟨b, cur, h8, h9, h10, h11⟩
      · exact .inl ⟨by rw [hCρ, h3]; exact h8, by rw [h5]; simp [rnOb, h9]⟩
      · refine .inr ⟨b, cur, hρ1 n j b hnj h8, fun hs => ?_, ?_, ?_⟩
        · rcases (hCS b).1 hs with hs | ⟨m, hm, hmb⟩
          · exact h9 hs
          · obtain ⟨om, hom, _⟩ := hfit.nf m hm
            have := hr.inj n m b ob0 om h4 hom h8 hmb
            subst this
            rw [hfit.apart n hm] at hnj; cases hnj
        · rw [hCW, h5]; exact h10
        · rw [h5]
          rw [rnOb_length]
          show ReL Cc (ob0.rows.map (List.map (rn0 (fwdN π)))).flatten _
          rw [rows_rn_flatten]
          exact (h11.mono Cx.le_lend).rn (C := C.lend B) hCW hρ1 (.inl hS1)
    · obtain ⟨n, o1, g1, g2, g3, _⟩ := preFacts j ob b h1 h3
      obtain ⟨n', o2, g1', g2', g3', _⟩ := preFacts j' ob' b h2 h4
      have := hr.inj n n' b o1 o2 g2 g2' g3 g3'
      subst this
      rw [g1] at g1'; exact Option.some.inj g1'
  have hsub : ∀ b, Cc.S b → b < Cc.W.heap.size := fun b hs => by
    rw [hCW]
    rcases (hCS b).1 hs with hs | ⟨m, hm, hmb⟩
    · exact hr.sub b hs
    · obtain ⟨om, hom, _⟩ := hfit.nf m hm
      exact (live_block hr hom hmb).2
  have hsmall : ∀ n, 64 ≤ n → Cc.ρ n = none := fun n hn => by
    rw [hCρ]
    cases hb : backN π n with
    | none => rfl
    | some m =>
      have := (hfit.small m n ((hfit.inj m n).1 hb)).1
      omega
  refine ⟨Cc, hCW, hargs, hpre, hsub, hsmall, ?_⟩
  intro v C' hre hpo
  -- the caller's names again
  obtain ⟨C2, hC2⟩ : ∃ C2 : Cx, C2 = ⟨C'.W, fun k => if new ≤ k ∧ k < new + 8 ∧ backN π (k - new) = none then C'.ρ (k - new) else match fwdN π k with | some j => C'.ρ j | none => C.ρ k, fun b => C.S b ∨ (C'.S b ∧ (C.W.heap.size ≤ b ∨ owned Cc pre b))⟩ := ⟨_, rfl⟩
  have hC2W : C2.W = C'.W := by rw [hC2]
  have hC2S : ∀ b, C2.S b ↔ C.S b ∨ (C'.S b ∧ (C.W.heap.size ≤ b ∨ owned Cc pre b)) := fun b => by rw [hC2]
  have hC2old : ∀ k, ¬ (new ≤ k ∧ k < new + 8) → fwdN π k = none → C2.ρ k = C.ρ k := fun k hk hf => by
    rw [hC2]; simp only []; rw [if_neg (fun h => hk ⟨h.1, h.2.1⟩), hf]
  have hC2fwd : ∀ k j, fwdN π k = some j → C2.ρ k = C'.ρ j := fun k j hf => by
    have := (hfit.small k j hf).2.1
    rw [hC2]; simp only []; rw [if_neg (fun h => by omega), hf]
  have hnewN : ∀ k, new ≤ k ∧ k < new + 8 → C.ρ k = none ∧ lookO st.obs k = none := fun k hk => by
    have := hnew (k - new) (by omega)
    rwa [show new + (k - new) = k by omega] at this
  have notOwned : ∀ b, C.S b → ¬ owned Cc pre b := fun b hs ho => by
    obtain ⟨n, j, ob0, h1, h2, h3⟩ := ownedC b ho
    exact (live_block hr h2 h3).1 hs
  have hle : C.le C2 := by
    refine .mk' (fun b h => (hC2S b).2 (.inl h)) (fun b h => ?_) (fun n b h => ?_) ?_
    · rw [hC2W]
      have := hpo.fr.block b (by rw [hCW]; exact hr.sub b h) (notOwned b h)
      rwa [hCW] at this
    · by_cases hk : new ≤ n ∧ n < new + 8
      · rw [(hnewN n hk).1] at h; cases h
      · cases hf : fwdN π n with
        | none => rw [hC2old n hk hf]; exact h
        | some j =>
          rw [hC2fwd n j hf]
          obtain ⟨obj, hobj⟩ := Option.isSome_iff_exists.1 (hfit.small n j hf).2.2
          exact hpo.keep j obj b hobj (hρ1 n j b hf h)
    · rw [hC2W]; have := hpo.fr.shp; rwa [hCW] at this
  -- where a contract's name goes
  have houtE : ∀ j n, outN π new j = some n → C2.ρ n = C'.ρ j := by
    intro j n h1
    unfold outN at h1
    cases hb : backN π j with
    | some m =>
      rw [hb] at h1
      simp only [Option.some.injEq] at h1
      subst h1
      exact hC2fwd m j ((hfit.inj m j).1 hb)
    | none =>
      rw [hb] at h1
      simp only [] at h1
      split at h1
      · cases h1
        rw [hC2]; simp only []
        rw [if_pos ⟨by omega, by omega, by rw [show new + j - new = j by omega]; exact hb⟩, show new + j - new = j by omega]
      · cases h1
  have hout : ∀ j n b, outN π new j = some n → C'.ρ j = some b → C2.ρ n = some b := fun j n b h1 h2 => (houtE j n h1).trans h2
  have houtN : ∀ j n, outN π new j = some n → C'.ρ j = none → C2.ρ n = none := fun j n h1 h2 => (houtE j n h1).trans h2
  have hS2 : ∀ (q : Prop), (B = [] ∨ q) → (∀ b, C'.S b → C2.S b) ∨ q := by
    intro q hq
    rcases hq with hq | hq
    · left
      intro b hs
      refine (hC2S b).2 ?_
      by_cases hlt : b < C.W.heap.size
      · rcases hpo.old b hs (by rw [hCW]; exact hlt) with h | h
        · rcases (hCS b).1 h with h | ⟨m, hm, _⟩
          · exact .inl h
          · rw [hq] at hm; cases hm
        · exact .inr ⟨hs, .inr h⟩
      · exact .inr ⟨hs, .inl (by omega)⟩
    · exact .inr hq
  have hlk : ∀ k x, lookO (applyU st.obs (preU π ++ postU π new post)) k = some x →
      (∃ j ob, lookO post j = some ob ∧ outN π new j = some k ∧ x = rnOb (outN π new) ob) ∨ (fwdN π k = none ∧ lookO st.obs k = some x) := by
    intro k x h
    rw [applyU_append] at h
    rcases look_postU π new k x post _ h with h | h
    · exact .inl h
    · exact .inr (look_preU k x π _ h)
  have other : ∀ k x b, fwdN π k = none → lookO st.obs k = some x → C.ρ k = some b → ¬ owned Cc pre b ∧ b < C.W.heap.size ∧ ¬ C2.S b := by
    intro k x b h1 h2 h3
    obtain ⟨hS, hlt⟩ := live_block hr h2 h3
    have hno : ¬ owned Cc pre b := fun ho => by
      obtain ⟨n, j, ob0, g1, g2, g3⟩ := ownedC b ho
      have := hr.inj k n b x ob0 h2 g2 h3 g3
      subst this; rw [g1] at h1; cases h1
    refine ⟨hno, hlt, fun hs => ?_⟩
    rcases (hC2S b).1 hs with h | ⟨_, h | h⟩
    · exact hS h
    · omega
    · exact hno h
  have oldρ : ∀ k x, fwdN π k = none → lookO st.obs k = some x → C2.ρ k = C.ρ k := fun k x hf h => hC2old k (fun hk => by rw [(hnewN k hk).2] at h; cases h) hf
  have postBlock : ∀ j ob b, lookO post j = some ob → C'.ρ j = some b → (owned Cc pre b ∨ C.W.heap.size ≤ b) ∧ ¬ C2.S b := by
    intro j ob b h1 h2
    have h3 := hpo.own j ob b h1 h2
    rw [hCW] at h3
    refine ⟨h3, fun hs => ?_⟩
    have hnS : ¬ C'.S b := ((hpo.obs.obs j ob h1).blk h2).1
    rcases (hC2S b).1 hs with h | h
    · rcases h3 with h3 | h3
      · exact notOwned b h h3
      · have := hr.sub b h; omega
    · exact hnS h.1
  have hfn : ∀ k, lookO st.obs k = none → fwdN π k = none := fun k ho => by
    cases hf : fwdN π k with
    | none => rfl
    | some j =>
      obtain ⟨obj, hobj⟩ := Option.isSome_iff_exists.1 (hfit.small k j hf).2.2
      obtain ⟨n, o, g1, g2, _⟩ := hfit.preF j obj hobj
      rw [(hfit.inj k j).2 hf] at g1; cases g1
      rw [ho] at g2; cases g2
  refine ⟨C2, hC2W, ?_, ?_, hle, fun k hk ho => hC2old k hk (hfn k ho)⟩
  · exact hre.rn2 hC2W hout (hS2 _ (hfit.rd.imp id (fun h => h.1)))
  · refine ⟨hr.size, fun t => (hr.regs t).mono hle, ?_, ?_, ?_, ?_, ?_, ?_, fun b cur T fz h1 h2 => (hC2S b).2 (.inl (hr.up b cur T fz h1 h2)), fun n b h => hle.ρ n b (hr.keep n b h), ?_⟩
    · intro k x h
      rcases hlk k x h with ⟨j, ob, h1, h2, rfl⟩ | ⟨h1, h2⟩
      · obtain ⟨hp1, hpp⟩ := hfit.postF j ob h1
        cases hpk : ob.k with
        | loop r => rw [hpk] at hpp; exact hpp.elim
        | map =>
          obtain ⟨g0, b, es, cl, h3, h4, h5, h6⟩ := (hpo.obs.obs j ob h1).map hpk
          have hkk : (rnOb (outN π new) ob).k = .map := hpk
          unfold ObOk
          rw [hkk]
          refine ⟨fun r hr' => ?_, b, es, cl, hout j k b h2 h3, (postBlock j ob b h1 h3).2, by rw [hC2W]; exact h5, ?_⟩
          · obtain ⟨r0, g1, rfl⟩ := List.mem_map.1 hr'
            rw [List.length_map]; exact g0 r0 g1
          · show ReL C2 (ob.rows.map (List.map (rn0 (outN π new)))).flatten _
            rw [rows_rn_flatten]
            refine h6.rn hC2W hout (hS2 _ (hfit.rd.imp id (fun h c hc => ?_)))
            obtain ⟨rw_, hr1, hc1⟩ := List.mem_flatten.1 hc
            exact h.2 j ob h1 rw_ hr1 c hc1
        | cells =>
        have hp2 : RowsOk ob.sz (rnOb (outN π new) ob).rows := by rw [hpk] at hpp; exact hpp
        refine .of_cells hpk hp2 ?_
        obtain ⟨hrow, hh⟩ := (hpo.obs.obs j ob h1).cells hpk
        rcases hh with ⟨h3, h4⟩ | ⟨b, cur, h3, h4, h5, h6⟩
        · exact .inl ⟨houtN j k h2 h3, by simp [rnOb, h4]⟩
        · refine .inr ⟨b, cur, hout j k b h2 h3, (postBlock j ob b h1 h3).2, by rw [hC2W]; exact h5, ?_⟩
          rw [rnOb_length]
          show ReL C2 (ob.rows.map (List.map (rn0 (outN π new)))).flatten _
          rw [rows_rn_flatten]
          refine h6.rn hC2W hout (hS2 _ (hfit.rd.imp id (fun h c hc => ?_)))
          obtain ⟨rw_, hr1, hc1⟩ := List.mem_flatten.1 hc
          exact h.2 j ob h1 rw_ hr1 c hc1
      · refine (hr.obs k x h2).frame hle (oldρ k x h1 h2) (fun b h3 h4 _ => ?_)
        obtain ⟨g1, g2, g3⟩ := other k x b h1 h2 h3
        refine ⟨.inl ?_, g3⟩
        rw [hC2W]
        have := hpo.fr.block b (by rw [hCW]; exact g2) g1
        rwa [hCW] at this
    · intro k k' b x x' h1 h2 h3 h4
      rcases hlk k x h1 with ⟨j, ob, g1, g2, rfl⟩ | ⟨g1, g2⟩ <;> rcases hlk k' x' h2 with ⟨j', ob', g1', g2', rfl⟩ | ⟨g1', g2'⟩
      · have blk : ∀ j ob k, lookO post j = some ob → outN π new j = some k → C2.ρ k = some b → C'.ρ j = some b := by
          intro j ob k g1 g2 h3
          cases hj : C'.ρ j with
          | some b' => rw [hout j k b' g2 hj] at h3; exact h3
          | none =>
            rw [houtN j k g2 hj] at h3; cases h3
        have e := hpo.obs.inj j j' b ob ob' g1 g1' (blk j ob k g1 g2 h3) (blk j' ob' k' g1' g2' h4)
        subst e
        rw [g2] at g2'; exact Option.some.inj g2'
      · exfalso
        have h5 : C.ρ k' = some b := (oldρ k' x' g1' g2').symm.trans h4
        obtain ⟨e1, e2, e3⟩ := other k' x' b g1' g2' h5
        cases hj : C'.ρ j with
        | some b' =>
          rw [hout j k b' g2 hj] at h3; cases h3
          rcases (postBlock j ob b g1 hj).1 with h | h
          · exact e1 h
          · omega
        | none =>
          rw [houtN j k g2 hj] at h3; cases h3
      · exfalso
        have h5 : C.ρ k = some b := (oldρ k x g1 g2).symm.trans h3
        obtain ⟨e1, e2, e3⟩ := other k x b g1 g2 h5
        cases hj : C'.ρ j' with
        | some b' =>
          rw [hout j' k' b' g2' hj] at h4; cases h4
          rcases (postBlock j' ob' b g1' hj).1 with h | h
          · exact e1 h
          · omega
        | none =>
          rw [houtN j' k' g2' hj] at h4; cases h4
      · exact hr.inj k k' b x x' g2 g2' ((oldρ k x g1 g2).symm.trans h3) ((oldρ k' x' g1' g2').symm.trans h4)
    · intro k x b h1 h2
      rcases hlk k x h1 with ⟨j, ob, g1, g2, rfl⟩ | ⟨g1, g2⟩
      · have hsz := hr.fr.size
        have ownM : owned Cc pre b → E.M b ∨ E.W0.heap.size ≤ b := fun h => by
          obtain ⟨n, j, ob0, g1, g2, g3⟩ := ownedC b h
          exact hr.own n ob0 b g2 g3
        cases hj : C'.ρ j with
        | some b' =>
          rw [hout j k b' g2 hj] at h2; cases h2
          rcases (postBlock j ob b g1 hj).1 with h | h
          · exact ownM h
          · exact .inr (by omega)
        | none =>
          rw [houtN j k g2 hj] at h2; cases h2
      · exact hr.own k x b g2 ((oldρ k x g1 g2).symm.trans h2)
    · intro b hs
      rw [hC2W]
      rcases (hC2S b).1 hs with h | h
      · have := hpo.fr.size; rw [hCW] at this; exact Nat.lt_of_lt_of_le (hr.sub b h) this
      · exact hpo.sub b h.1
    · rw [hC2W]
      refine hr.fr.trans (M' := owned Cc pre) (by have := hpo.fr; rwa [hCW] at this) (fun i hi ho => ?_)
      obtain ⟨n, j, ob0, g1, g2, g3⟩ := ownedC i ho
      rcases hr.own n ob0 i g2 g3 with h | h
      · exact h
      · omega
    · intro b hs hlt
      have hsz := hr.fr.size
      rcases (hC2S b).1 hs with h | ⟨_, h | h⟩
      · exact hr.old b h hlt
      · omega
      · obtain ⟨n, j, ob0, g1, g2, g3⟩ := ownedC b h
        rcases hr.own n ob0 b g2 g3 with h | h
        · exact .inr h
        · omega
    · refine hr.defs.of_fr (fun D hD hd' => ?_)
      rw [hC2W]
      have := hpo.fr.block D (by rw [hCW]; exact hD) (fun ho => ?_)
      · rwa [hCW] at this
      · obtain ⟨n, j, ob0, g1, g2, g3⟩ := ownedC D ho
        exact (hr.obs n ob0 g2).not_deferred g3 hd'
/-- A function that is known, and its arguments. -/
theorem call_run {f : Operand} {cargs : Array Operand} {ts : Array TypeId} {g : FuncId} {xs : List PV} (hr : Rel E C st a) (ho : o.op = .call ⟨.value f, cargs, ts⟩) (hent : entersB P g = true)
    (hx : (∃ caps, evP st.regs f = .clo g caps ∧ xs = cargs.toList.map (evP st.regs) ++ caps) ∨ ∃ first, evP st.regs f = .bnd g first ∧ xs = first ++ cargs.toList.map (evP st.regs)) :
    ∃ vs : List Value, ReL C xs vs ∧ (execOp a.eval o).run P C.W = .ok (.enter g vs.toArray) C.W := by
  have hfv := hr.eval f
  rcases hx with ⟨caps, hf, rfl⟩ | ⟨first, hf, rfl⟩
  · rw [hf] at hfv
    obtain ⟨capsV, hfe, hcaps⟩ : ∃ capsV : List Value, a.eval f = .func (.func g) #[] capsV.toArray ∧ ReL C caps capsV := by
      generalize a.eval f = fv at hfv
      cases hfv with
      | clo hl hh => exact ⟨_, rfl, hl, hh⟩
    refine ⟨cargs.toList.map a.eval ++ capsV, (relMap hr cargs.toList).append hcaps, ?_⟩
    have he := entersB_run hent ((cargs.toList.map a.eval ++ capsV).toArray) C.W
    have hv : cargs.map a.eval ++ capsV.toArray = (cargs.toList.map a.eval ++ capsV).toArray := by
      apply Array.toList_inj.1; simp
    simp only [execOp, ho, resolve, hfe, Deferred.ofValue, Sem.run_bind, Sem.run_pure, Result.andThen_ok, invoke]
    rw [show #[] ++ cargs.map a.eval ++ capsV.toArray = (cargs.toList.map a.eval ++ capsV).toArray by rw [← hv]; simp]
    exact he
  · rw [hf] at hfv
    obtain ⟨capsV, hfe, hcaps⟩ : ∃ capsV : List Value, a.eval f = .func (.func g) capsV.toArray #[] ∧ ReL C first capsV := by
      generalize a.eval f = fv at hfv
      cases hfv with
      | bnd hl hh => exact ⟨_, rfl, hl, hh⟩
    refine ⟨capsV ++ cargs.toList.map a.eval, hcaps.append (relMap hr cargs.toList), ?_⟩
    have he := entersB_run hent ((capsV ++ cargs.toList.map a.eval).toArray) C.W
    simp only [execOp, ho, resolve, hfe, Deferred.ofValue, Sem.run_bind, Sem.run_pure, Result.andThen_ok, invoke]
    rw [show capsV.toArray ++ cargs.map a.eval ++ #[] = (capsV ++ cargs.toList.map a.eval).toArray by apply Array.toList_inj.1; simp]
    exact he
theorem call_in {xs : List PV} {vs : List Value} {g : FuncId} {B : List Nat} {π : List (Nat × Nat)} {args : List PV} {pre : List (Nat × Ob)} {en : Option (List PanicEntry)} {r : PV} {post : List (Nat × Ob)}
    (hr : Rel E C st a) (hnew : ∀ k, k < 8 → C.ρ (new + k) = none ∧ lookO st.obs (new + k) = none) (hxs : ReL C xs vs) (hfit : CallFit st new xs B π args pre r post) (hc : CallTo P g args pre en r post) :
    Calls P g vs.toArray C.W fun e W' => ∃ v C2, e = endsAs en v ∧ C2.W = W' ∧ Re C2 (rn2 (outN π new) r) v ∧ Rel E C2 { st with obs := applyU st.obs (preU π ++ postU π new post) } a ∧ C.le C2 ∧ (∀ k, ¬ (new ≤ k ∧ k < new + 8) → lookO st.obs k = none → C2.ρ k = C.ρ k) := by
  obtain ⟨Cc, h1, h2, h3, h4, h5, h6⟩ := call_core hr hnew hxs hfit
  have h7 := hc.2 Cc vs h2 h3 h4 h5
  rw [h1] at h7
  refine h7.mono ?_
  rintro e W' ⟨v, C', g1, g2, g3, g4⟩
  obtain ⟨C2, k1, k2, k3, k4, k5⟩ := h6 v C' g3 g4
  exact ⟨v, C2, g1, k1.trans g2, k2, k3, k4, k5⟩
theorem call_ok {xs : List PV} {vs : List Value} {g : FuncId} {B : List Nat} {π : List (Nat × Nat)} {args : List PV} {pre : List (Nat × Ob)} {r : PV} {post : List (Nat × Ob)}
    (hr : Rel E C st a) (hnew : ∀ k, k < 8 → C.ρ (new + k) = none ∧ lookO st.obs (new + k) = none) (hd : ∀ c, o.op ≠ .defer c) (hxs : ReL C xs vs) (hrun : (execOp a.eval o).run P C.W = .ok (.enter g vs.toArray) C.W)
    (hfit : CallFit st new xs B π args pre r post) (hc : CallOk P g args pre r post) :
    StepOk P E C st a o new (rn2 (outN π new) r) (preU π ++ postU π new post) := by
  have hcall := call_in hr hnew hxs hfit hc
  intro rr n next Q hK
  refine ⟨fun _ _ => trivial, ?_⟩
  rw [Oper.semAt_plain (Fw rr) _ _ hd, hrun, Oper.uponIn_enter]
  refine ⟨fun h => absurd h (by simp [Fw, Fence.wide]), ?_⟩
  have hci : CallsIn (Fw rr) (n - 1) P g vs.toArray C.W _ := (callsIn_wide (n := n - 1)).2 hcall
  refine hci.mono ?_
  rintro e W' ⟨v, C2, rfl, rfl, h1, h2, h3, h4⟩
  exact hK v C2 h1 h2 h3 h4
end
end Go.Proofs.Ytipolblhiljoiaa.Sy

namespace Go.Proofs.Ytipolblhiljoiaa.Sy
open Go Go.RowKit
set_option linter.unusedVariables false
set_option linter.unusedSimpArgs false

def resOf (P : Program) (st : St) : List ResultVar → (List PV → Prop) → Prop
  | [], K => K []
  | .tmp t :: r, K => resOf P st r fun l => K (strip (look st.regs t) :: l)
  | .cell x t :: r, K => (aLoad P t (strip (look st.regs x)) (lookO st.obs)).ok ∧ resOf P st r fun l => K ((aLoad P t (strip (look st.regs x)) (lookO st.obs)).v :: l)
def resV : List PV → PV
  | [v] => v
  | l => .tup l
section
variable {P : Program} {E : En} {C : Cx} {st : St} {a : Act}
theorem loadP (hr : Rel E C st a) {T : TypeId} {p : PV} {v : Value} (hx : Re C p v) (h : (aLoad P T p (lookO st.obs)).ok) :
    ∃ x, (do loadVar T (← asAddr v) : Sem Value).run P C.W = .ok x C.W ∧ Re C (aLoad P T p (lookO st.obs)).v x := by
  have conv : ∀ {ad : Addr} {x : Value}, (Instr.loadAt T (.pointer (some ad))).run P C.W = .ok x C.W → (do loadVar T (← asAddr (.pointer (some ad))) : Sem Value).run P C.W = .ok x C.W := fun {ad x} hh => by
    simp [Instr.loadAt, Instr.sureAddr] at hh
    simp [asAddr, hh]
  unfold aLoad at *
  split at h
  · rename_i d n nm sz row off hd hn
    cases ho' : lookO st.obs nm with
    | none => rw [ho'] at h; exact h.elim
    | some ob =>
      rw [ho'] at h
      simp only [ho']
      obtain ⟨hk, e, h1, h2⟩ := h
      cases hx with
      | ref hb =>
        obtain ⟨hrow, hh⟩ := hr.cells ho' hk
        rcases hh with ⟨hz, _⟩ | ⟨b', cur, hb', hS, hc, hre⟩
        · rw [hb] at hz; cases hz
        · rw [hb] at hb'; cases hb'
          subst e
          have := load_run (P := P) hd hn (p := 0) hc hrow (by simpa using hre) h1 h2
          simp only [Nat.zero_add] at this
          obtain ⟨y, hy, hre'⟩ := this
          exact ⟨y, conv hy, hre'⟩
  · rename_i d n sz rows row off hd hn
    obtain ⟨h1, h2⟩ := h
    cases hx with
    | rp hb hc hrow hx' hl hh =>
      have := load_run (P := P) hd hn hc hrow (by rw [hx']; exact ReL.mono C.nn_le ⟨hl, hh⟩) h1 h2
      obtain ⟨y, hy, hre'⟩ := this
      exact ⟨y, conv hy, hre'⟩
  · exact h.elim
def resM (tmps : Array Value) : ResultVar → Sem Value
  | .tmp t => pure (tmps.getD t undef)
  | .cell x t => do loadVar t (← asAddr (tmps.getD x undef))
theorem results_eq (fn : Func) (tmps : Array Value) : results fn tmps = (fn.results.mapM (resM tmps) >>= fun vs => pure (if h : vs.size = 1 then vs[0] else .tuple vs)) := rfl
theorem resOf_run (hr : Rel E C st a) : ∀ (l : List ResultVar) (K : List PV → Prop), resOf P st l K → ∃ ps vs, K ps ∧ ReL C ps vs ∧
    (l.mapM (resM a.tmps)).run P C.W = .ok vs C.W
  | [], K, h => ⟨[], [], h, ReL.nil C, rfl⟩
  | .tmp t :: r, K, h => by
    obtain ⟨ps, vs, h1, h2, h3⟩ := resOf_run hr r _ h
    refine ⟨_, a.tmps.getD t undef :: vs, h1, ReL.cons (hr.regs t).strip h2, ?_⟩
    rw [List.mapM_cons]
    simp only [resM, Sem.run_bind, Sem.run_pure, Result.andThen_ok, h3]
  | .cell x t :: r, K, h => by
    obtain ⟨y, hy1, hy2⟩ := loadP (P := P) hr (hr.regs x).strip h.1
    obtain ⟨ps, vs, h1, h2, h3⟩ := resOf_run hr r _ h.2
    refine ⟨_, y :: vs, h1, ReL.cons hy2 h2, ?_⟩
    have hy1' : (resM a.tmps (.cell x t)).run P C.W = .ok y C.W := hy1
    rw [List.mapM_cons, Sem.run_bind, hy1', Result.andThen_ok, Sem.run_bind, h3, Result.andThen_ok, Sem.run_pure]
theorem results_run (hr : Rel E C st a) {fn : Func} {K : List PV → Prop} (h : resOf P st fn.results.toList K) : ∃ ps v, K ps ∧ (results fn a.tmps).run P C.W = .ok v C.W ∧ Re C (resV ps) v := by
  obtain ⟨ps, vs, h1, h2, h3⟩ := resOf_run (P := P) hr _ _ h
  have h4 : (fn.results.mapM (resM a.tmps)).run P C.W = .ok vs.toArray C.W := by
    rw [Array.mapM_eq_mapM_toList]
    simp only [← bind_pure_comp, Sem.run_bind, h3, Result.andThen_ok, Sem.run_pure]
  by_cases hl : vs.length = 1
  · obtain ⟨v, rfl⟩ := List.length_eq_one_iff.1 hl
    obtain ⟨p, rfl⟩ := List.length_eq_one_iff.1 (h2.1.trans hl)
    refine ⟨[p], v, h1, ?_, h2.head.1⟩
    rw [results_eq, Sem.run_bind, h4, Result.andThen_ok]
    simp
  · refine ⟨ps, .tuple vs.toArray, h1, ?_, ?_⟩
    · rw [results_eq, Sem.run_bind, h4, Result.andThen_ok]
      simp [hl]
    · have : resV ps = .tup ps := by
        match ps, h2.1 with
        | [], _ => rfl
        | [p], h => simp at h; omega
        | _ :: _ :: _, _ => rfl
      rw [this]; exact .tup h2.1 h2.2
/-- What a walk's end leaves when the marks are taken away. -/
structure Tk (n : Nat) (W W' : World) : Prop where
  os : W'.os = W.os
  tape : W'.tape = W.tape
  output : W'.output = W.output
  drawn : W'.drawn = W.drawn
  size : W'.heap.size = W.heap.size
  blk : ∀ k, W'.heap[k]? = W.heap[k]? ∨ n ≤ k ∧ W.heap[k]? = some (.deferred (some []))
theorem Tk.cells {n : Nat} {W W' : World} (h : Tk n W W') {k : Nat} {cur : Array Value} {T : TypeId} {fz : Nat × Nat} (hk : W.heap[k]? = some (.cells cur T fz)) : W'.heap[k]? = some (.cells cur T fz) := by
  rcases h.blk k with h | ⟨_, h⟩
  · rw [h]; exact hk
  · rw [hk] at h; cases h
theorem leaves_marks {fn : Func} {tmps : Array Value} {R : Ending → World → Prop} {n m : Nat} : ∀ (Ds : List Nat) (W : World), Ds.Nodup → (∀ D ∈ Ds, n ≤ D ∧ W.heap[D]? = some (.deferred (some []))) →
    (∀ W', Tk n W W' → ∃ v, (results fn tmps).run P W' = .ok v W' ∧ R (.returned v) W') → LeavesInM Fence.wide m P fn tmps R (Ds.map (fun D => { target := .collected D, args := #[] })) .returning W
  | [], W, _, _, h => h W ⟨rfl, rfl, rfl, rfl, rfl, fun _ => .inl rfl⟩
  | D :: Ds, W, hn, hD, h => by
    have h1 := hD D List.mem_cons_self
    have hlt := (Array.getElem?_eq_some_iff.1 h1.2).1
    rw [List.nodup_cons] at hn
    refine ⟨by simp, .inl ⟨D, W.putObj D (.deferred none), rfl, run_takeDeferred h1.2, ?_⟩⟩
    refine leaves_marks (n := n) Ds _ hn.2 (fun D' hD' => ?_) (fun W' hT => h W' ?_)
    · have h2 := hD D' (List.mem_cons_of_mem _ hD')
      have : D' ≠ D := fun e => hn.1 (e ▸ hD')
      exact ⟨h2.1, (World.putObj_heap_other this).trans h2.2⟩
    · refine ⟨hT.os, hT.tape, hT.output, hT.drawn, hT.size.trans World.putObj_size, fun k => ?_⟩
      by_cases e : k = D
      · subst e; exact .inr h1
      · rw [← World.putObj_heap_other (w := W) (o := .deferred none) e]
        exact hT.blk k
/-- The parameters' temporaries. -/
def parRegs : Nat → List PV → List (Nat × PV)
  | _, [] => []
  | k, p :: r => (k, p) :: parRegs (k + 1) r
theorem look_parRegs {C : Cx} : ∀ (ps : List PV) (vs : List Value) (k t : Nat), ReL C ps vs → (∀ i (h : i < vs.length), t = k + i → Re C (look (parRegs k ps) t) vs[i]) ∧ ((t < k ∨ k + ps.length ≤ t) → look (parRegs k ps) t = .un)
  | [], vs, k, t, h => by
    have : vs = [] := List.eq_nil_of_length_eq_zero h.1.symm
    subst this
    exact ⟨fun i hi => absurd hi (by simp), fun _ => rfl⟩
  | p :: ps, [], k, t, h => absurd h.1 (by simp)
  | p :: ps, v :: vs, k, t, h => by
    obtain ⟨h1, h2⟩ := h.head
    obtain ⟨g1, g2⟩ := look_parRegs ps vs (k + 1) t h2
    refine ⟨fun i hi ht => ?_, fun ht => ?_⟩
    · cases i with
      | zero => rw [parRegs, look, if_pos (by omega)]; exact h1
      | succ i =>
        rw [parRegs, look, if_neg (by omega)]
        exact g1 i (by simpa using hi) (by omega)
    · rw [parRegs, look, if_neg (by simp at ht; omega)]
      exact g2 (by simp at ht; omega)

/-! ### Walks within walks -/
def Free (C : Cx) (st : St) : Prop := ∀ n, st.new ≤ n → C.ρ n = none ∧ lookO st.obs n = none
/-- A walk that begins where another one stands. -/
def En.at (C : Cx) (obs : List (Nat × Ob)) : En := ⟨C.W, owned C obs, C.S, C.ρ, []⟩
theorem Rel.enter (hr : Rel E C st a) {n0 : Nat} {regs0 : List (Nat × PV)} {a0 : Act} (hs : a0.tmps.size = n0) (hregs : RegsOk C regs0 a0.tmps) (hd : a0.defers = []) : Rel (En.at C st.obs) C ⟨n0, regs0, st.obs, st.new⟩ a0 :=
  ⟨hs, hregs, hr.obs, hr.inj, fun nm ob b h1 h2 => .inl ⟨nm, ob, h1, h2⟩, hr.sub, Fr.refl _ _, fun b h _ => .inl h, fun b cur T fz h _ => h, fun n b h => h, by rw [hd]; exact ⟨[], rfl, List.nodup_nil, fun D hD => absurd hD (by simp)⟩⟩
theorem owned_lt (hr : Rel E C st a) {b : Nat} (h : owned C st.obs b) : ¬ C.S b ∧ b < C.W.heap.size ∧ (E.M b ∨ E.W0.heap.size ≤ b) ∧ ∀ ds, C.W.heap[b]? ≠ some (.deferred ds) := by
  obtain ⟨nm, ob, h1, h2⟩ := h
  exact ⟨((hr.obs nm ob h1).blk h2).1, (hr.obs nm ob h1).lt h2, hr.own nm ob b h1 h2, fun ds h => (hr.obs nm ob h1).not_deferred h2 h⟩
theorem Rel.le_of_at (hr : Rel E C st a) {C' : Cx} {s : St} {a' : Act} (hr' : Rel (En.at C st.obs) C' s a') : C.le C' := by
  refine ⟨fun b cur T fz h1 h2 => ⟨hr'.up b cur T fz h1 h2, ?_⟩, hr'.keep, hr'.fr.shp⟩
  exact (hr'.fr.block b (Array.getElem?_eq_some_iff.1 h2).1 (fun h => (owned_lt hr h).1 h1)).trans h2
/-- The walk within is over: the outer one goes on, with what has become of the blocks. -/
theorem Rel.leave (hr : Rel E C st a) {C' : Cx} {s : St} {a' : Act} (hr' : Rel (En.at C st.obs) C' s a') : Rel E C' ⟨st.n, st.regs, s.obs, s.new⟩ a := by
  have hle := hr.le_of_at hr'
  have hsz := hr.fr.size
  have hM : ∀ b, (En.at C st.obs).M b → E.M b ∨ E.W0.heap.size ≤ b := fun b h => (owned_lt hr h).2.2.1
  refine ⟨hr.size, fun t => (hr.regs t).mono hle, hr'.obs, hr'.inj, fun nm ob b h1 h2 => ?_, hr'.sub, hr.fr.trans hr'.fr (fun i hi h => ?_), fun b hb hlt => ?_, fun b cur T fz h1 h2 => ?_, fun n b h => hr'.keep n b (hr.keep n b h), hr.defs.of_fr (fun D hD hd => hr'.fr.block D hD (fun h => (owned_lt hr h).2.2.2 _ hd))⟩
  · rcases hr'.own nm ob b h1 h2 with h | h
    · exact hM b h
    · exact .inr (Nat.le_trans hsz h)
  · rcases hM i h with h | h
    · exact h
    · omega
  · rcases hr'.old b hb (Nat.lt_of_lt_of_le hlt hsz) with h | h
    · exact hr.old b h hlt
    · rcases hM b h with h | h
      · exact .inr h
      · omega
  · obtain ⟨cur', fz', g1, _⟩ := hr.fr.shp b cur T fz h2
    exact hr'.up b cur' T fz' (hr.up b cur T fz h1 h2) g1
/-- The marks are taken: the state is as it was. -/
theorem Rel.taken {C1 : Cx} {a' : Act} {W2 : World} (h2 : Rel E C1 st a') (hT : Tk E.W0.heap.size C1.W W2) : ∃ C2 : Cx, C2.W = W2 ∧ C2.ρ = C1.ρ ∧ Rel E C2 st { a' with defers := E.dfs } := by
  obtain ⟨C2, hC2⟩ : ∃ C2 : Cx, C2 = ⟨W2, C1.ρ, C1.S⟩ := ⟨_, rfl⟩
  have e1 : C2.W = W2 := by rw [hC2]
  have e2 : C2.ρ = C1.ρ := by rw [hC2]
  have e3 : C2.S = C1.S := by rw [hC2]
  have hle : C1.le C2 := by
    refine ⟨fun b cur T fz g1 g2 => ⟨by rw [e3]; exact g1, by rw [e1]; exact hT.cells g2⟩, fun n b h => by rw [e2]; exact h, fun b cur T fz h => ⟨cur, fz, by rw [e1]; exact hT.cells h, rfl⟩⟩
  refine ⟨C2, e1, e2, h2.size, fun t => (h2.regs t).mono hle, fun nm ob ho => ?_, fun nm nm' b o1 o2 g1 g2 g3 g4 => h2.inj nm nm' b o1 o2 g1 g2 (by rw [← e2]; exact g3) (by rw [← e2]; exact g4), fun nm ob b g1 g2 => h2.own nm ob b g1 (by rw [← e2]; exact g2),
        fun b hb => ?_, ?_, fun b hb hlt => h2.old b (by rw [← e3]; exact hb) hlt, fun b cur T fz g1 g2 => by rw [e3]; exact h2.up b cur T fz g1 g2, fun n b hn => by rw [e2]; exact h2.keep n b hn, ⟨[], rfl, List.nodup_nil, fun D hD => absurd hD (by simp)⟩⟩
  · refine (h2.obs nm ob ho).frame hle (by rw [e2]) (fun b g1 g2 g3 => ⟨?_, by rw [e3]; exact g2⟩)
    rw [e1]
    rcases hT.blk b with h | ⟨_, h⟩
    · exact .inl h
    · exact .inr h
  · rw [e1, hT.size]; exact h2.sub b (by rw [← e3]; exact hb)
  · rw [e1]
    refine ⟨hT.os.trans h2.fr.os, hT.tape.trans h2.fr.tape, hT.output.trans h2.fr.output, by rw [hT.drawn]; exact h2.fr.drawn, by rw [hT.size]; exact h2.fr.size, fun b hb hM => ?_, fun b cur T fz hb => ?_⟩
    · rcases hT.blk b with h | ⟨h, _⟩
      · exact h.trans (h2.fr.block b hb hM)
      · omega
    · obtain ⟨cur', fz', g1, g2⟩ := h2.fr.shp b cur T fz hb
      exact ⟨cur', fz', hT.cells g1, g2⟩
/-- The marks of loops are taken, when a function panics. -/
theorem leaves_marksP {fn : Func} {tmps : Array Value} {R : Ending → World → Prop} {n m : Nat} {ch : List PanicEntry} : ∀ (Ds : List Nat) (W : World), Ds.Nodup → (∀ D ∈ Ds, n ≤ D ∧ W.heap[D]? = some (.deferred (some []))) →
    (∀ W', Tk n W W' → R (.panicked ch) W') → LeavesInM Fence.wide m P fn tmps R (Ds.map (fun D => { target := .collected D, args := #[] })) (.panicking ch) W
  | [], W, _, _, h => h W ⟨rfl, rfl, rfl, rfl, rfl, fun _ => .inl rfl⟩
  | D :: Ds, W, hn, hD, h => by
    have h1 := hD D List.mem_cons_self
    have hlt := (Array.getElem?_eq_some_iff.1 h1.2).1
    rw [List.nodup_cons] at hn
    refine ⟨by simp, .inl ⟨D, W.putObj D (.deferred none), rfl, run_takeDeferred h1.2, ?_⟩⟩
    refine leaves_marksP (n := n) Ds _ hn.2 (fun D' hD' => ?_) (fun W' hT => h W' ?_)
    · have h2 := hD D' (List.mem_cons_of_mem _ hD')
      have : D' ≠ D := fun e => hn.1 (e ▸ hD')
      exact ⟨h2.1, (World.putObj_heap_other this).trans h2.2⟩
    · refine ⟨hT.os, hT.tape, hT.output, hT.drawn, hT.size.trans World.putObj_size, fun k => ?_⟩
      by_cases e : k = D
      · subst e; exact .inr h1
      · rw [← World.putObj_heap_other (w := W) (o := .deferred none) e]
        exact hT.blk k
/-- The record of a loop turns. -/
def setRec (obs : List (Nat × Ob)) (nm : Nat) (r : RecI) : List (Nat × Ob) := (nm, ⟨0, 0, [], .loop r⟩) :: dropO obs nm
theorem lookO_setRec (obs : List (Nat × Ob)) (nm : Nat) (r : RecI) (k : Nat) : lookO (setRec obs nm r) k = if nm = k then some ⟨0, 0, [], .loop r⟩ else lookO obs k := by
  unfold setRec
  rw [lookO, lookO_dropO]
  by_cases e : nm = k <;> simp [e]
theorem Rel.setRec (hr : Rel E C st a) {nm b : Nat} {ob : Ob} {r r' : RecI} (h1 : lookO st.obs nm = some ob) (hk : ob.k = .loop r) (hb : C.ρ nm = some b) (e1 : r'.n = r.n) (e2 : r'.regs = r.regs) (e3 : r'.tm = r.tm) :
    C.W.heap[b]? = some (.loop r.loop) ∧ Rel E ⟨C.W.putObj b (.loop r'.loop), C.ρ, C.S⟩ { st with obs := Sy.setRec st.obs nm r' } a := by
  obtain ⟨q0, q1, q2, b', q3, q4, q5⟩ := (hr.obs nm ob h1).loop hk
  rw [hb] at q3; cases q3
  refine ⟨q5, ?_⟩
  obtain ⟨C', hC'⟩ : ∃ C' : Cx, C' = ⟨C.W.putObj b (.loop r'.loop), C.ρ, C.S⟩ := ⟨_, rfl⟩
  rw [← hC']
  have eW : C'.W = C.W.putObj b (.loop r'.loop) := by rw [hC']
  have eρ : C'.ρ = C.ρ := by rw [hC']
  have eS : C'.S = C.S := by rw [hC']
  have hlt := (Array.getElem?_eq_some_iff.1 q5).1
  have hother : ∀ k, k ≠ b → C'.W.heap[k]? = C.W.heap[k]? := fun k hk => by rw [eW]; exact World.putObj_heap_other hk
  have hself : C'.W.heap[b]? = some (.loop r'.loop) := by rw [eW]; exact World.putObj_heap_same hlt
  have hsz : C'.W.heap.size = C.W.heap.size := by rw [eW]; simp
  have hcells : ∀ (k : Nat) (cur : Array Value) (T : TypeId) (fz : Nat × Nat), C.W.heap[k]? = some (.cells cur T fz) → C'.W.heap[k]? = some (.cells cur T fz) := fun k cur T fz h => (hother k (fun e => by subst e; rw [q5] at h; cases h)).trans h
  have hle : C.le C' := ⟨fun k cur T fz g1 g2 => ⟨by rw [eS]; exact g1, hcells k cur T fz g2⟩, fun n k h => by rw [eρ]; exact h, fun k cur T fz h => ⟨cur, fz, hcells k cur T fz h, rfl⟩⟩
  have hlk : ∀ k x, lookO (Sy.setRec st.obs nm r') k = some x → (k = nm ∧ x = ⟨0, 0, [], .loop r'⟩) ∨ (k ≠ nm ∧ lookO st.obs k = some x) := fun k x h => by
    rw [lookO_setRec] at h
    by_cases e : nm = k
    · rw [if_pos e] at h; exact .inl ⟨e.symm, (Option.some.inj h).symm⟩
    · rw [if_neg e] at h; exact .inr ⟨fun x => e x.symm, h⟩
  refine ⟨hr.size, fun t => (hr.regs t).mono hle, ?_, ?_, ?_, fun k hk' => by rw [hsz]; exact hr.sub k (by rw [← eS]; exact hk'), ?_, fun k hk' => hr.old k (by rw [← eS]; exact hk'), fun k cur T fz g1 g2 => by rw [eS]; exact hr.up k cur T fz g1 g2, fun n k h => by rw [eρ]; exact hr.keep n k h, hr.defs.of_fr (fun D hD hd => hother D (fun e => by subst e; rw [q5] at hd; cases hd))⟩
  · intro k x h
    rcases hlk k x h with ⟨rfl, rfl⟩ | ⟨e, h⟩
    · exact ⟨rfl, by rw [e3, e1]; exact q1, by rw [e2, e3]; exact q2.mono hle, b, by rw [eρ]; exact hb, by rw [eS]; exact q4, hself⟩
    · refine (hr.obs k x h).frame hle (by rw [eρ]) (fun b2 g1 g2 _ => ⟨.inl (hother b2 (fun e3 => e (hr.inj k nm b x ob h h1 (e3 ▸ g1) hb))), by rw [eS]; exact g2⟩)
  · intro k k' b2 x x' g1 g2 g3 g4
    rw [eρ] at g3 g4
    have old : ∀ k x, lookO (Sy.setRec st.obs nm r') k = some x → ∃ y, lookO st.obs k = some y := fun k x h => by
      rcases hlk k x h with ⟨rfl, _⟩ | ⟨_, h⟩
      · exact ⟨_, h1⟩
      · exact ⟨_, h⟩
    obtain ⟨y, hy⟩ := old k x g1
    obtain ⟨y', hy'⟩ := old k' x' g2
    exact hr.inj k k' b2 y y' hy hy' g3 g4
  · intro k x b2 g1 g2
    rw [eρ] at g2
    rcases hlk k x g1 with ⟨rfl, _⟩ | ⟨_, h⟩
    · exact hr.own k ob b2 h1 g2
    · exact hr.own k x b2 h g2
  · refine ⟨?_, ?_, ?_, ?_, by rw [hsz]; exact hr.fr.size, fun k hk' hM => ?_, ?_⟩
    · rw [eW]; exact hr.fr.os
    · rw [eW]; exact hr.fr.tape
    · rw [eW]; exact hr.fr.output
    · rw [eW]; exact hr.fr.drawn
    · have : k ≠ b := fun e => by
        subst e
        rcases hr.own nm ob k h1 hb with h | h
        · exact hM h
        · omega
      exact (hother k this).trans (hr.fr.block k hk' hM)
    · exact hr.fr.shp.trans hle.shp
theorem loop_at (hr : Rel E C st a) {nm : Nat} {ob : Ob} {r : RecI} (h1 : lookO st.obs nm = some ob) (hk : ob.k = .loop r) : ∃ b, C.ρ nm = some b ∧ C.W.heap[b]? = some (.loop r.loop) ∧ r.tm.size = r.n ∧ RegsOk C r.regs r.tm := by
  obtain ⟨q0, q1, q2, b', q3, q4, q5⟩ := (hr.obs nm ob h1).loop hk
  exact ⟨b', q3, q5, q1, q2⟩
/-- Names turn only where they are told. -/
theorem Free.setRec {C' : Cx} (hf : Free C st) (hρ : C'.ρ = C.ρ) {nm : Nat} {r : RecI} (hlt : nm < st.new) : Free C' { st with obs := Sy.setRec st.obs nm r } := fun n hn => by
  have h := hf n hn
  refine ⟨by rw [hρ]; exact h.1, ?_⟩
  show lookO (Sy.setRec st.obs nm r) n = none
  rw [lookO_setRec, if_neg (by have : st.new ≤ n := hn; omega)]; exact h.2
/-- What a round begins with. -/
def argRegs (ps : List Tmp) (args : List PV) (regs : List (Nat × PV)) : List (Nat × PV) := (ps.zip args).foldl (fun l x => x :: l) regs
theorem argRegs_ok : ∀ (ps : List Tmp) (args : List PV) (vs : List Value) (regs : List (Nat × PV)) (tm : Array Value), ReL C args vs → RegsOk C regs tm → (∀ t ∈ ps, t < tm.size) →
    RegsOk C (argRegs ps args regs) ((ps.zip vs).foldl (fun t x => t.setIfInBounds x.1 x.2) tm) ∧ ((ps.zip vs).foldl (fun t (x : Tmp × Value) => t.setIfInBounds x.1 x.2) tm).size = tm.size
  | [], args, vs, regs, tm, h, hr, ht => by simpa [argRegs] using hr
  | p :: ps, [], vs, regs, tm, h, hr, ht => by
    have : vs = [] := List.eq_nil_of_length_eq_zero h.1.symm
    subst this
    simpa [argRegs] using hr
  | p :: ps, x :: args, [], regs, tm, h, hr, ht => absurd h.1 (by simp)
  | p :: ps, x :: args, v :: vs, regs, tm, h, hr, ht => by
    obtain ⟨h1, h2⟩ := h.head
    have hp := ht p List.mem_cons_self
    have hr' : RegsOk C ((p, x) :: regs) (tm.setIfInBounds p v) := fun s => by
      rw [getD_set _ _ _ _ hp, look]
      by_cases e : p = s
      · rw [if_pos e, if_pos e]; exact h1
      · rw [if_neg e, if_neg e]; exact hr s
    have := argRegs_ok ps args vs ((p, x) :: regs) (tm.setIfInBounds p v) h2 hr' (fun t h => by rw [Array.size_setIfInBounds]; exact ht t (List.mem_cons_of_mem _ h))
    rw [Array.size_setIfInBounds] at this
    exact this
/-- A function's body begins so. -/
theorem parRegs_ok {xs : List PV} {vs : List Value} {n : Nat} (h : ReL C xs vs) (hlen : xs.length ≤ n) : RegsOk C (parRegs 0 xs) (vs.toArray ++ Array.replicate (n - vs.toArray.size) undef) ∧ (vs.toArray ++ Array.replicate (n - vs.toArray.size) undef).size = n := by
  have hvl := h.1
  refine ⟨fun t => ?_, by simp; omega⟩
  obtain ⟨g1, g2⟩ := look_parRegs xs vs 0 t h
  by_cases ht : t < vs.length
  · have e : (vs.toArray ++ Array.replicate (n - vs.toArray.size) undef).getD t undef = vs[t] := by
      simp [Array.getElem?_append, ht]
    rw [e]; exact g1 t ht (by omega)
  · rw [g2 (.inr (by omega))]; exact .un _
end
end Go.Proofs.Ytipolblhiljoiaa.Sy

namespace Go.Proofs.Ytipolblhiljoiaa.Sy
open Go Go.RowKit
set_option linter.unusedVariables false
set_option linter.unusedSimpArgs false

def uOk : Upd → Nat → Prop
  | [], _ => True
  | (n, _) :: r, k => n < k ∧ uOk r k
/-- How a walk stands: in which rounds it may be; the names that are not its own. -/
structure Jd where
  ok : Option Nat → Prop
  base : Nat
/-- A function's walk; a round's. -/
def Jd.fn (b : Nat) : Jd := ⟨fun r => r = none, b⟩
def Jd.rd (b : Nat) : Jd := ⟨fun _ => True, b⟩
/-- What a piece of code must come to. -/
def PostS (E : En) (Q : Exit → St → Prop) : Exit → Act → World → Prop := fun e a W => ∃ C st, C.W = W ∧ Rel E C st a ∧ Free C st ∧ Q e st
/-- The names that a walk began with are small. -/
def WPg (J : Jd) (P : Program) (c : Code) (st : St) (Q : Exit → St → Prop) : Prop :=
  ∀ (E : En) (r : Option Nat) (n : Nat) (C : Cx) (a : Act), J.ok r → (∀ n b, E.ρ0 n = some b → n < J.base) → Rel E C st a → Free C st → c.wpIn (Fw r) n P (PostS E Q) a C.W

/-- What comes behind an operation: its value, the blocks, the next name. -/
abbrev KS := PV → List (Nat × Ob) → Nat → Prop
/-- A call, by a contract. -/
def conK (P : Program) (g : FuncId) (xs : List PV) (st : St) (K : KS) : Prop :=
  ∃ (B : List Nat) (π : List (Nat × Nat)) (args : List PV) (pre : List (Nat × Ob)) (r : PV) (post : List (Nat × Ob)), CallOk P g args pre r post ∧ CallFit st st.new xs B π args pre r post ∧
    uOk (preU π ++ postU π st.new post) (st.new + 8) ∧ K (rn2 (outN π st.new) r) (applyU st.obs (preU π ++ postU π st.new post)) (st.new + 8)
/-- A call that panics, by a contract. -/
def panK (P : Program) (g : FuncId) (xs : List PV) (st : St) (Qp : List PanicEntry → St → Prop) : Prop :=
  ∃ (B : List Nat) (π : List (Nat × Nat)) (args : List PV) (pre : List (Nat × Ob)) (ch : List PanicEntry) (post : List (Nat × Ob)), CallPan P g args pre ch post ∧ CallFit st st.new xs B π args pre .un post ∧
    uOk (preU π ++ postU π st.new post) (st.new + 8) ∧ Qp ch ⟨st.n, st.regs, applyU st.obs (preU π ++ postU π st.new post), st.new + 8⟩
/-- A call, walked where it stands. -/
def inlK (P : Program) (g : FuncId) (xs : List PV) (st : St) (Qp : List PanicEntry → St → Prop) (K : KS) : Prop :=
  ∃ (fn : Func) (c : Code), P.funcs[g]? = some fn ∧ fn.body = some c ∧ entersB P g = true ∧ xs.length ≤ fn.ntmps ∧
    WPg (.fn st.new) P c ⟨fn.ntmps, parRegs 0 xs, st.obs, st.new⟩ fun e s => match e with
      | .normal => resOf P s fn.results.toList fun l => K (resV l) s.obs s.new
      | .ret => resOf P s fn.results.toList fun l => K (resV l) s.obs s.new
      | .panic ch => Qp ch ⟨st.n, st.regs, s.obs, s.new⟩
      | _ => False
def callK (P : Program) (g : FuncId) (xs : List PV) (st : St) (Qp : List PanicEntry → St → Prop) (K : KS) : Prop := conK P g xs st K ∨ panK P g xs st Qp ∨ inlK P g xs st Qp K
/-- How a round ends. -/
def roundK (nm : Nat) (K : KS) : Exit → St → Prop := fun e s => ∃ ob r, lookO s.obs nm = some ob ∧ ob.k = .loop r ∧ match e with
  | .normal => K (.val (.bool true)) (setRec s.obs nm { r with st := .ready, pend := none }) s.new
  | .ret => K (.val (.bool false)) (setRec s.obs nm { r with st := .done, pend := some .ret }) s.new
  | .exit i => K (.val (.bool false)) (setRec s.obs nm { r with st := .done, pend := some (.exit i) }) s.new
  | _ => False
/-- A call of yield: a round of the loop. -/
def yieldK (P : Program) (nm : Nat) (args : List PV) (st : St) (K : KS) : Prop :=
  ∃ ob r, lookO st.obs nm = some ob ∧ ob.k = .loop r ∧ r.st = .ready ∧ r.ps.size = args.length ∧ (∀ t ∈ r.ps.toList, t < r.n) ∧ nm < st.new ∧
    WPg (.rd st.new) P r.asg ⟨r.n, argRegs r.ps.toList args r.regs, st.obs, st.new⟩ fun e s => e = .normal ∧ ∃ ob1 r1, lookO s.obs nm = some ob1 ∧ ob1.k = .loop r1 ∧ r1.st = .ready ∧ nm < s.new ∧
      WPg (.rd st.new) P r.body ⟨s.n, s.regs, setRec s.obs nm { r1 with st := .busy }, s.new⟩ fun e s' => nm < s'.new ∧ roundK nm K e s'
/-- Go on with what an operation has done; nothing is looked at behind it before that is known. -/
def runR (r : R) (st : St) (K : KS) : Prop := r.ok ∧ uOk r.u (st.new + 8) ∧ K r.v (applyU st.obs r.u) (st.new + 8)
/-- Two ways, by a truth value that may not be known yet. -/
def condK (p : PV) (X Y : Prop) : Prop := match p with
  | .val (.bool t) => (t = true → X) ∧ (t = false → Y)
  | .anyB => X ∧ Y
  | _ => False
/-- A guarded operation: by a truth value; one that was not done itself wants nothing. -/
def guardK (p : PV) (want : Bool) (X Y : Prop) : Prop := match p with
  | .val (.bool b) => (b = want → X) ∧ (b ≠ want → Y)
  | .val (.tuple _) => Y
  | _ => False
/-- What a function value is. -/
def calleeK (P : Program) (p : PV) (args : List PV) (st : St) (Qp : List PanicEntry → St → Prop) (K : KS) : Prop := match p with
  | .clo g caps => callK P g (args ++ caps) st Qp K
  | .bnd g first => callK P g (first ++ args) st Qp K
  | .yld nm => yieldK P nm args st K
  | _ => False
def panicK (p : PV) (st : St) (Qp : List PanicEntry → St → Prop) : Prop := match p with
  | .val (.iface t v) => Qp [{ v := .iface t v, recovered := false }] st
  | _ => False
def stepK (P : Program) (o : Oper) (st : St) (Qp : List PanicEntry → St → Prop) (K : KS) : Prop :=
  match o.op with
  | .call ⟨.value f, cargs, _⟩ => calleeK P (evP st.regs f) (cargs.toList.map (evP st.regs)) st Qp K
  | .panic x => panicK (evP st.regs x) st Qp
  | _ => runR (act P o (evP st.regs) (lookO st.obs) st.new) st K
def nextSt (o : Oper) (st : St) (v : PV) (u : Upd) : St :=
  match o.dst with
  | some d => ⟨st.n, (d, v) :: st.regs, applyU st.obs u, st.new + 8⟩
  | none => ⟨st.n, st.regs, applyU st.obs u, st.new + 8⟩
def nextS (o : Oper) (st : St) (v : PV) (obs : List (Nat × Ob)) (new : Nat) : St :=
  match o.dst with
  | some d => ⟨st.n, (d, v) :: st.regs, obs, new⟩
  | none => ⟨st.n, st.regs, obs, new⟩
def dstIn : Option Tmp → Nat → Prop
  | some d, n => d < n
  | none, _ => True
def guardV (all : List Oper) (st : St) (j : Nat) : PV :=
  match (all[j]?).bind (·.dst) with
  | some d => look st.regs d
  | none => .un
/-- Operations that only look. -/
def softOp : Op → Bool
  | .move _ | .assign _ | .pick _ _ _ | .extract _ _ | .load _ _ | .fieldAddr _ _ _ | .field _ _ _ | .indexAddr _ _ _ | .index _ _ _ | .slice _ _ _ _ _ | .binOp _ _ _ _ _ | .unOp _ _ _ | .convert _ _ _ | .lookup _ _ _ _ | .nilCheck _ => true
  | .call ⟨.builtin .len, _, _⟩ | .call ⟨.builtin .min, _, _⟩ | .call ⟨.builtin .max, _, _⟩ => true
  | _ => false
/-- Whether a guarded operation is done. -/
def guardE (p : PV) (want : Bool) : Option Bool := match p with
  | .val (.bool b) => some (b == want)
  | .cnd b (.val (.bool t)) => some (b && (t == want))
  | .cnd b (.cnd c (.val (.bool t))) => some (b && (c && (t == want)))
  | .val (.tuple _) => some false
  | .cnd b _ => if b then none else some false
  | _ => none
/-- A guarded operation that only looks: what it gives is known where it is done. -/
def softK (g : Option Bool) (r : Bool → R) (Z : PV → Prop) : Prop := match g with
  | some g => (g = true → (r g).ok ∧ (r g).u = []) ∧ Z (.cnd g (r g).v)
  | none => False
def execOps (P : Program) (all : List Oper) : List Oper → St → (List PanicEntry → St → Prop) → (St → Prop) → Prop
  | [], st, Qp, K => K st
  | o :: rest, st, Qp, K => dstIn o.dst st.n ∧ match o.guard with
    | none => stepK P o st Qp fun v obs new => execOps P all rest (nextS o st v obs new) Qp K
    | some (j, want) => if softOp o.op = true then softK (guardE (guardV all st j) want) (fun g => act P o (evS g st.regs) (lookO st.obs) st.new) fun v => execOps P all rest (nextS o st v st.obs (st.new + 8)) Qp K else
      guardK (strip (guardV all st j)) want (stepK P o st Qp fun v obs new => execOps P all rest (nextS o st v obs new) Qp K) (execOps P all rest (nextS o st (.val undef) st.obs st.new) Qp K)

theorem updAt_ge : ∀ (u : Upd) (old : Option Ob) (n k : Nat), uOk u k → k ≤ n → updAt old n u = old
  | [], _, _, _, _, _ => rfl
  | (m, x) :: u, old, n, k, h, hk => by
    rw [updAt, if_neg (by have := h.1; omega)]
    exact updAt_ge u old n k h.2 hk
section
variable {P : Program} {E : En} {C : Cx} {st : St} {a : Act} {o : Oper}
theorem Rel.nextSt {u : Upd} (hr : Rel E C { st with obs := applyU st.obs u } a) {v : PV} {x : Value} (hv : Re C v x) (hd : dstIn o.dst st.n) : Rel E C (nextSt o st v u) (a.put o.dst x) := by
  have := hr.put (d := o.dst) hv (fun t ht => by rw [ht] at hd; exact hd)
  unfold Sy.nextSt
  cases hdst : o.dst with
  | none => rw [hdst] at this; exact ⟨this.size, this.regs, this.obs, this.inj, this.own, this.sub, this.fr, this.old, this.up, this.keep, this.defs⟩
  | some d => rw [hdst] at this; exact ⟨this.size, this.regs, this.obs, this.inj, this.own, this.sub, this.fr, this.old, this.up, this.keep, this.defs⟩
theorem Rel.nextS {obs : List (Nat × Ob)} {new : Nat} (hr : Rel E C ⟨st.n, st.regs, obs, new⟩ a) {v : PV} {x : Value} (hv : Re C v x) (hd : dstIn o.dst st.n) : Rel E C (nextS o st v obs new) (a.put o.dst x) := by
  have := hr.put (d := o.dst) hv (fun t ht => by rw [ht] at hd; exact hd)
  unfold Sy.nextS
  cases hdst : o.dst with
  | none => rw [hdst] at this; exact this
  | some d => rw [hdst] at this; exact this
theorem Free.nextS {obs : List (Nat × Ob)} {new : Nat} (hf : Free C ⟨st.n, st.regs, obs, new⟩) (v : PV) : Free C (nextS o st v obs new) := by
  unfold Sy.nextS
  split <;> exact hf
theorem Rel.new (hr : Rel E C st a) (new : Nat) : Rel E C ⟨st.n, st.regs, st.obs, new⟩ a := ⟨hr.size, hr.regs, hr.obs, hr.inj, hr.own, hr.sub, hr.fr, hr.old, hr.up, hr.keep, hr.defs⟩
theorem Free.upd {C' : Cx} (hf : Free C st) {u : Upd} (hu : uOk u (st.new + 8)) (hρ : ∀ k, ¬ (st.new ≤ k ∧ k < st.new + 8) → lookO st.obs k = none → C'.ρ k = C.ρ k) : Free C' ⟨st.n, st.regs, applyU st.obs u, st.new + 8⟩ := by
  intro n hn
  have hn' : st.new + 8 ≤ n := hn
  have h := hf n (by omega)
  refine ⟨(hρ n (by omega) h.2).trans h.1, ?_⟩
  show lookO (applyU st.obs u) n = none
  rw [lookO_applyU, updAt_ge u _ n _ hu hn']; exact h.2
theorem Free.nextSt {C' : Cx} (hf : Free C st) {v : PV} {u : Upd} (hu : uOk u (st.new + 8)) (hρ : ∀ k, ¬ (st.new ≤ k ∧ k < st.new + 8) → lookO st.obs k = none → C'.ρ k = C.ρ k) : Free C' (nextSt o st v u) := by
  have := hf.upd hu hρ
  unfold Sy.nextSt; split <;> exact this
theorem free_base (hf : Free C st) : ∀ n b, (En.at C st.obs).ρ0 n = some b → n < st.new := fun n b h =>
  Nat.lt_of_not_le fun hle => by
    have := (hf n hle).1
    rw [show C.ρ n = some b from h] at this; cases this

/-- A function's body, walked where it is called; what its end gives. -/
theorem inl_calls {g : FuncId} {fn : Func} {c : Code} {xs : List PV} {vs : List Value} {Q : Exit → St → Prop} (hr : Rel E C st a) (hf : Free C st) (hfn : P.funcs[g]? = some fn) (hb : fn.body = some c) (hlen : xs.length ≤ fn.ntmps) (hxs : ReL C xs vs)
    (h : WPg (.fn st.new) P c ⟨fn.ntmps, parRegs 0 xs, st.obs, st.new⟩ Q) {R : Ending → World → Prop}
    (hnorm : ∀ e s C2 a2, (e = .normal ∨ e = .ret) → Q e s → Rel (En.at C st.obs) C2 s a2 → Free C2 s → ∃ v, (results fn a2.tmps).run P C2.W = .ok v C2.W ∧ R (.returned v) C2.W)
    (hpan : ∀ ch s C2 a2, Q (.panic ch) s → Rel (En.at C st.obs) C2 s a2 → Free C2 s → R (.panicked ch) C2.W) (hbad : ∀ e s, (e ≠ .normal ∧ e ≠ .ret ∧ ∀ ch, e ≠ .panic ch) → ¬ Q e s) : Calls P g vs.toArray C.W R := by
  refine (callsIn_wide (n := 0)).1 ?_
  refine callsIn_of_wp_marks hfn hb trivial ?_ rfl
  obtain ⟨p1, p2⟩ := parRegs_ok (C := C) (n := fn.ntmps) hxs hlen
  have hr0 := hr.enter (a0 := { tmps := vs.toArray ++ Array.replicate (fn.ntmps - vs.toArray.size) undef, defers := [] }) p2 p1 rfl
  refine wpIn_mono (h (En.at C st.obs) none 0 C _ rfl (free_base hf) hr0 hf) ?_
  rintro e a' W' ⟨C1, s, rfl, h2, h3, hq⟩
  obtain ⟨Ds, hds0, hnd, hD⟩ := h2.defs
  have hds : a'.defers = Ds.map (fun D => { target := .collected D, args := #[] }) := hds0.trans (List.append_nil _)
  have main : e = .normal ∨ e = .ret → LeavesInM Fence.wide 0 P fn a'.tmps R a'.defers .returning C1.W := fun he => by
    rw [hds]
    refine leaves_marks (n := (En.at C st.obs).W0.heap.size) Ds C1.W hnd hD (fun W2 hT => ?_)
    obtain ⟨C2, e1, e2, hr2⟩ := h2.taken hT
    have hf2 : Free C2 s := fun n hn => ⟨by rw [e2]; exact (h3 n hn).1, (h3 n hn).2⟩
    obtain ⟨v, k1, k2⟩ := hnorm e s C2 _ he hq hr2 hf2
    rw [e1] at k1 k2
    exact ⟨v, k1, k2⟩
  cases e with
  | normal => exact main (.inl rfl)
  | ret => exact main (.inr rfl)
  | panic ch =>
    show LeavesInM Fence.wide 0 P fn a'.tmps R a'.defers (.panicking ch) C1.W
    rw [hds]
    refine leaves_marksP (n := (En.at C st.obs).W0.heap.size) Ds C1.W hnd hD (fun W2 hT => ?_)
    obtain ⟨C2, e1, e2, hr2⟩ := h2.taken hT
    have hf2 : Free C2 s := fun n hn => ⟨by rw [e2]; exact (h3 n hn).1, (h3 n hn).2⟩
    have := hpan ch s C2 _ hq hr2 hf2
    rwa [e1] at this
  | exit i => exact absurd hq (hbad _ _ ⟨(by simp), (by simp), (by simp)⟩)
  | goto i => exact absurd hq (hbad _ _ ⟨(by simp), (by simp), (by simp)⟩)
  | outgrown => exact absurd hq (hbad _ _ ⟨(by simp), (by simp), (by simp)⟩)
/-- One round, as yield runs it. -/
theorem yield_round {nm b : Nat} {args : List PV} {vs : List Value} {K : KS} (hr : Rel E C st a) (hf : Free C st) (hb : C.ρ nm = some b) (hargs : ReL C args vs) (h : yieldK P nm args st K) {m : Nat} {R : Ending → World → Prop}
    (hK : ∀ t obs new C2, K (.val (.bool t)) obs new → Rel E C2 ⟨st.n, st.regs, obs, new⟩ a → Free C2 ⟨st.n, st.regs, obs, new⟩ → R (.returned (.bool t)) C2.W) :
    YieldAt Fence.wide m P b vs.toArray C.W R := by
  obtain ⟨ob, r, h1, h2, h3, h4, h5, h6, h7⟩ := h
  obtain ⟨b', g1, g2, g3, g4⟩ := loop_at hr h1 h2
  rw [hb] at g1; cases g1
  have hy := run_yield (P := P) (args := vs.toArray) g2 (by have := hargs.1; simp [RecI.loop, h4, this])
  refine ⟨r.fn, _, r.asg, r.body, hy, ?_⟩
  refine roundIn_of_wpIn trivial ?_
  have hzip : (r.loop.params.zip vs.toArray).foldl (fun tmps (x : Tmp × Value) => tmps.setIfInBounds x.1 x.2) r.loop.tmps = (r.ps.toList.zip vs).foldl (fun t x => t.setIfInBounds x.1 x.2) r.tm := by
    rw [← Array.foldl_toList, Array.toList_zip]
    rfl
  obtain ⟨q1, q2⟩ := argRegs_ok (C := C) r.ps.toList args vs r.regs r.tm hargs g4 (fun t ht => by rw [g3]; exact h5 t ht)
  have hr0 := hr.enter (n0 := r.n) (regs0 := argRegs r.ps.toList args r.regs) (a0 := { tmps := (r.ps.toList.zip vs).foldl (fun t x => t.setIfInBounds x.1 x.2) r.tm, defers := [] }) (q2.trans g3) q1 rfl
  have hw := h7 (En.at C st.obs) (some b) m C _ trivial (free_base hf) hr0 hf
  rw [show ((r.loop.params.zip vs.toArray).foldl (fun tmps (t, a) => tmps.setIfInBounds t a) r.loop.tmps) = (r.ps.toList.zip vs).foldl (fun t x => t.setIfInBounds x.1 x.2) r.tm from hzip]
  refine wpIn_mono hw ?_
  rintro e a1 W1 ⟨C1, s, rfl, k1, k2, rfl, ob1, r1, k3, k4, k5, k6, k7⟩
  obtain ⟨b1, l1, l2, l3, l4⟩ := loop_at k1 k3 k4
  have hbb : b1 = b := by
    have := k1.keep nm b hb
    rw [l1] at this; exact Option.some.inj this
  subst hbb
  obtain ⟨_, hr1⟩ := k1.setRec (r' := { r1 with st := .busy }) k3 k4 l1 rfl rfl rfl
  refine ⟨_, run_beginRound l2 (by simp [RecI.loop, k5]), ?_⟩
  have hf1 : Free (⟨C1.W.putObj b1 (.loop ({ r1 with st := .busy } : RecI).loop), C1.ρ, C1.S⟩ : Cx) { s with obs := setRec s.obs nm { r1 with st := .busy } } := k2.setRec rfl k6
  refine wpIn_mono (k7 (En.at C st.obs) (some b1) m _ a1 trivial (free_base hf) hr1 hf1) ?_
  rintro e a2 W2 ⟨C2, s', rfl, m1, m2, m3, ob2, r2, m4, m5, m6⟩
  obtain ⟨b2, n1, n2, n3, n4⟩ := loop_at m1 m4 m5
  have hbb : b2 = b1 := by
    have := m1.keep nm b1 hb
    rw [n1] at this; exact Option.some.inj this
  subst hbb
  have fin : ∀ (jump : Option Code) (st' : LoopState), (st' = if jump.isNone then .ready else .done) → K (.val (.bool jump.isNone)) (setRec s'.obs nm { r2 with st := st', pend := jump }) s'.new → ∃ v w', (Instr.endRound b2 jump).run P C2.W = .ok v w' ∧ R (.returned v) w' := by
    intro jump st' hst hk
    obtain ⟨_, hr2⟩ := m1.setRec (r' := { r2 with st := st', pend := jump }) m4 m5 n1 rfl rfl rfl
    have hf2 := m2.setRec (C' := ⟨C2.W.putObj b2 (.loop ({ r2 with st := st', pend := jump } : RecI).loop), C2.ρ, C2.S⟩) (r := { r2 with st := st', pend := jump }) rfl m3
    refine ⟨_, _, run_endRound jump n2, ?_⟩
    have := hK _ _ _ _ hk (hr.leave hr2) hf2
    rw [hst] at this
    exact this
  cases e with
  | normal => exact fin none .ready rfl m6
  | ret => exact fin (some .ret) .done rfl m6
  | exit i => exact fin (some (.exit i)) .done rfl m6
  | goto i => exact m6.elim
  | panic ch => exact m6.elim
  | outgrown => exact m6.elim
theorem step_sound (hr : Rel E C st a) (hf : Free C st) (hd : dstIn o.dst st.n) {Qp : List PanicEntry → St → Prop} {K : KS} (h : stepK P o st Qp K) {r : Option Nat} {n : Nat} {next : Act → World → Prop} {Q : Exit → Act → World → Prop}
    (hK : ∀ v obs new C' a', K v obs new → Rel E C' (nextS o st v obs new) a' → Free C' (nextS o st v obs new) → next a' C'.W)
    (hP : ∀ ch s C' a', Qp ch s → Rel E C' s a' → Free C' s → Q (.panic ch) a' C'.W) : o.wpIn (Fw r) n P a C.W next Q := by
  have hfr : ∀ k, k < 8 → C.ρ (st.new + k) = none ∧ lookO st.obs (st.new + k) = none := fun k hk => hf _ (by omega)
  have fin : ∀ v obs new C' x, K v obs new → Re C' v x → Rel E C' ⟨st.n, st.regs, obs, new⟩ a → Free C' ⟨st.n, st.regs, obs, new⟩ → next (a.put o.dst x) C'.W := fun v obs new C' x hk hx hr' hf' =>
    hK v obs new C' _ hk (hr'.nextS hx hd) (hf'.nextS v)
  unfold stepK at h
  split at h
  · rename_i f cargs ts ho
    have hnd : ∀ c, o.op ≠ .defer c := fun c => by rw [ho]; intro e; cases e
    have call : ∀ g xs, callK P g xs st Qp K → ((∃ caps, evP st.regs f = .clo g caps ∧ xs = cargs.toList.map (evP st.regs) ++ caps) ∨ ∃ first, evP st.regs f = .bnd g first ∧ xs = first ++ cargs.toList.map (evP st.regs)) → o.wpIn (Fw r) n P a C.W next Q := by
      intro g xs h hx
      have enter : ∀ vs : List Value, (execOp a.eval o).run P C.W = .ok (.enter g vs.toArray) C.W → (Calls P g vs.toArray C.W fun
          | .returned v, w'' => next (a.put o.dst v) w''
          | .panicked chain, w'' => Q (.panic chain) a w''
          | .outgrown, _ => LetsOut Q) → o.wpIn (Fw r) n P a C.W next Q := by
        intro vs hrun hcall
        refine ⟨fun _ _ => trivial, ?_⟩
        rw [Oper.semAt_plain (Fw r) _ _ hnd, hrun, Oper.uponIn_enter]
        refine ⟨fun h => absurd h (by simp [Fw, Fence.wide]), ?_⟩
        have hci : CallsIn (Fw r) (n - 1) P g vs.toArray C.W _ := (callsIn_wide (n := n - 1)).2 hcall
        exact hci
      rcases h with ⟨B, π, args, pre, rr, post, h1, h2, h3, h4⟩ | ⟨B, π, args, pre, ch, post, h1, h2, h3, h4⟩ | ⟨fn, c, h1, h2, h3, h4, h5⟩
      · obtain ⟨vs, hxs, hrun⟩ := call_run hr ho h1.1 hx
        refine enter vs hrun ((call_in hr hfr hxs h2 h1).mono ?_)
        rintro e W' ⟨v, C2, rfl, rfl, k1, k2, k3, k4⟩
        exact fin _ _ _ C2 v h4 k1 (k2.new _) (hf.upd h3 k4)
      · obtain ⟨vs, hxs, hrun⟩ := call_run hr ho h1.1 hx
        refine enter vs hrun ((call_in hr hfr hxs h2 h1).mono ?_)
        rintro e W' ⟨v, C2, rfl, rfl, k1, k2, k3, k4⟩
        exact hP ch _ C2 a h4 (k2.new _) (hf.upd h3 k4)
      · obtain ⟨vs, hxs, hrun⟩ := call_run hr ho h3 hx
        refine enter vs hrun (inl_calls hr hf h1 h2 h4 hxs h5 ?_ ?_ ?_)
        · intro e s C2 a2 he hq k1 k2
          have hres : resOf P s fn.results.toList fun l => K (resV l) s.obs s.new := by
            rcases he with rfl | rfl <;> exact hq
          obtain ⟨ps, v, hk, hrun', hre⟩ := results_run (P := P) k1 hres
          exact ⟨v, hrun', fin _ _ _ C2 v hk hre (hr.leave k1) k2⟩
        · intro ch s C2 a2 hq k1 k2
          exact hP ch _ C2 a hq (hr.leave k1) k2
        · intro e s he hq
          cases e with
          | normal => exact he.1 rfl
          | ret => exact he.2.1 rfl
          | panic ch => exact he.2.2 ch rfl
          | _ => exact hq
    unfold calleeK at h
    split at h
    · rename_i g caps hfv
      exact call g _ h (.inl ⟨caps, hfv, rfl⟩)
    · rename_i g first hfv
      exact call g _ h (.inr ⟨first, hfv, rfl⟩)
    · rename_i nm hfv
      have hfe := hr.eval f
      rw [hfv] at hfe
      obtain ⟨b, hb, hfe⟩ : ∃ b, C.ρ nm = some b ∧ a.eval f = .func (.yield b) #[] #[] := by
        generalize a.eval f = fv at hfe
        cases hfe with
        | yld hb => exact ⟨_, hb, rfl⟩
      have hy := yield_round (m := n - 1) hr hf hb (relMap hr cargs.toList) h (R := fun
          | .returned v, w'' => next (a.put o.dst v) w''
          | .panicked chain, w'' => Q (.panic chain) a w''
          | .outgrown, _ => LetsOut Q) (fun t obs new C2 hk k1 k2 => fin _ _ _ C2 _ hk (.val _) k1 k2)
      obtain ⟨fn, tmps, assign, body, hy1, hy2⟩ := hy
      refine ⟨fun _ _ => trivial, ?_⟩
      have hrun : (execOp a.eval o).run P C.W = .ok (.round b fn tmps assign body) C.W := by
        have : cargs.map a.eval = (cargs.toList.map a.eval).toArray := by apply Array.toList_inj.1; simp
        rw [← this] at hy1
        simp only [execOp, ho, resolve, hfe, Deferred.ofValue, Sem.run_bind, Sem.run_pure, Result.andThen_ok, invoke]
        simpa using hy1
      rw [Oper.semAt_plain (Fw r) _ _ hnd, hrun, Oper.uponIn_round]
      exact ⟨fun h => absurd h (by simp [Fw, Fence.wide]), hy2⟩
    · exact h.elim
  · rename_i x ho
    unfold panicK at h
    split at h
    · rename_i t v hx
      have hxe := hr.eval x
      rw [hx] at hxe
      have hxe' : a.eval x = .iface t v := by generalize a.eval x = y at hxe; cases hxe; rfl
      have hnd : ∀ c, o.op ≠ .defer c := fun c => by rw [ho]; intro e; cases e
      refine ⟨fun _ _ => trivial, ?_⟩
      have hrun : (execOp a.eval o).run P C.W = .halt (.panic (.iface t v)) C.W := by
        simp [execOp, ho, hxe', Instr.panic]
      rw [Oper.semAt_plain (Fw r) _ _ hnd, hrun, Oper.uponIn_panic]
      exact hP _ _ C a h hr hf
    · exact h.elim
  · rename_i hc hp
    obtain ⟨h1, h2, h3⟩ := h
    refine act_ok (P := P) hr (hf _ (Nat.le_refl _)).1 (hf _ (Nat.le_refl _)).2 h1 r n next Q (fun x C' hv hr' hle hρ => ?_)
    exact fin _ _ _ C' x h3 hv (hr'.new _) (hf.upd h2 hρ)
def boolOf : Value → Option Bool
  | .bool b => some b
  | _ => none
theorem yielded_at (hr : Rel E C st a) (ops : Array Oper) (j : Nat) {x : Value} (h : ∀ v, Re C (guardV ops.toList st j) v → v = x) : yielded ops a.tmps j = boolOf x := by
  unfold guardV at h
  unfold yielded
  rw [Array.getElem?_toList] at h
  cases hd : (ops[j]?).bind (·.dst) with
  | none =>
    rw [hd] at h
    have h1 := h (.bool true) (.un _)
    have h2 := h (.bool false) (.un _)
    rw [← h1] at h2; cases h2
  | some d =>
    rw [hd] at h
    have h1 := h _ (hr.regs d)
    simp only [Option.bind_some]
    rw [Array.getD_eq_getD_getElem?] at h1
    cases ht : a.tmps[d]? with
    | none => rw [ht] at h1; simp only [Option.getD_none] at h1; rw [← h1]; rfl
    | some y => rw [ht] at h1; simp only [Option.getD_some] at h1; rw [← h1]; cases y <;> rfl
theorem guard_val {p : PV} {b : Bool} (h : p = .val (.bool b)) : ∀ v, Re C p v → v = .bool b := fun v hv => by subst h; cases hv; rfl
theorem wanted_of (hr : Rel E C st a) (ops : Array Oper) {j : Nat} {want g : Bool} (hg : o.guard = some (j, want)) (h : guardE (guardV ops.toList st j) want = some g) : Region.wanted o (yielded ops a.tmps) = g := by
  unfold guardE at h
  split at h
  · rename_i b hb
    cases h
    have hy := yielded_at hr ops j (x := .bool b) (fun v hv => by rw [hb] at hv; cases hv; rfl)
    simp [Region.wanted, hg, hy, boolOf]
  · rename_i b t hb
    cases h
    cases b with
    | true =>
      have hy := yielded_at hr ops j (x := .bool t) (fun v hv => by rw [hb] at hv; cases hv with | cndT h => cases h; rfl)
      simp [Region.wanted, hg, hy, boolOf]
    | false =>
      have hy := yielded_at hr ops j (x := undef) (fun v hv => by rw [hb] at hv; cases hv; rfl)
      simp [Region.wanted, hg, hy, boolOf, undef]
  · rename_i b c t hb
    cases h
    cases b with
    | true =>
      cases c with
      | true =>
        have hy := yielded_at hr ops j (x := .bool t) (fun v hv => by rw [hb] at hv; cases hv with | cndT h => cases h with | cndT h => cases h; rfl)
        simp [Region.wanted, hg, hy, boolOf]
      | false =>
        have hy := yielded_at hr ops j (x := undef) (fun v hv => by rw [hb] at hv; cases hv with | cndT h => cases h; rfl)
        simp [Region.wanted, hg, hy, boolOf, undef]
    | false =>
      have hy := yielded_at hr ops j (x := undef) (fun v hv => by rw [hb] at hv; cases hv; rfl)
      simp [Region.wanted, hg, hy, boolOf, undef]
  · rename_i xs hb
    cases h
    have hy := yielded_at hr ops j (x := .tuple xs) (fun v hv => by rw [hb] at hv; cases hv; rfl)
    simp [Region.wanted, hg, hy, boolOf]
  · rename_i b p _ _ hb
    cases b with
    | true => cases h
    | false =>
      cases h
      have hy := yielded_at hr ops j (x := undef) (fun v hv => by rw [hb] at hv; cases hv; rfl)
      simp [Region.wanted, hg, hy, boolOf, undef]
  · cases h
theorem strip_bool (hr : Rel E C st a) (ops : Array Oper) (j : Nat) {b : Bool} (h : strip (guardV ops.toList st j) = .val (.bool b)) : yielded ops a.tmps j = some b := by
  have := yielded_at hr ops j (x := .bool b) (fun v hv => by
    have := hv.strip
    rw [h] at this
    cases this; rfl)
  exact this
theorem strip_tup (hr : Rel E C st a) (ops : Array Oper) (j : Nat) {xs : Array Value} (h : strip (guardV ops.toList st j) = .val (.tuple xs)) : yielded ops a.tmps j = none := by
  have := yielded_at hr ops j (x := .tuple xs) (fun v hv => by
    have := hv.strip
    rw [h] at this
    cases this; rfl)
  exact this
/-- An operation that only looks, guarded. -/
theorem soft_step {st' : St} (hn : st'.n = st.n) (hr : Rel E C st' a) (hf : C.ρ st'.new = none ∧ lookO st'.obs st'.new = none) (hd : dstIn o.dst st.n) (hs : softOp o.op = true) {R0 : R} (hR : R0 = act P o (evP st'.regs) (lookO st'.obs) st'.new) (h1 : R0.ok) (h2 : R0.u = []) {r : Option Nat} {n : Nat} {next : Act → World → Prop} {Q : Exit → Act → World → Prop}
    (hK : ∀ x C', Re C' R0.v x → Rel E C' st' a → (∀ k, ¬ (st'.new ≤ k ∧ k < st'.new + 8) → lookO st'.obs k = none → C'.ρ k = C.ρ k) → C.le C' → next (a.put o.dst x) C'.W) : o.wpIn (Fw r) n P a C.W next Q := by
  subst hR
  refine act_ok (P := P) hr hf.1 hf.2 h1 r n next Q (fun x C' hv hr' hle hρ => ?_)
  rw [h2] at hr'
  exact hK x C' hv hr' hρ hle
theorem wanted_none (ops : Array Oper) (o : Oper) (tmps : Array Value) (h : o.guard = none) : Region.wanted o (yielded ops tmps) = true := by simp [Region.wanted, h]
theorem ops_sound {Q : Exit → Act → World → Prop} {r : Option Nat} {n : Nat} (ops : Array Oper) {Qp : List PanicEntry → St → Prop} {K : St → Prop} (hQ : ∀ st C a, K st → Rel E C st a → Free C st → Q .normal a C.W)
    (hP : ∀ ch st C a, Qp ch st → Rel E C st a → Free C st → Q (.panic ch) a C.W) :
    ∀ (m k : Nat) (st : St) (C : Cx) (a : Act), k + m = ops.size → execOps P ops.toList (ops.toList.drop k) st Qp K → Rel E C st a → Free C st → wpOpsIn (Fw r) n P ops Q (List.range' k m) a C.W
  | 0, k, st, C, a, hk, h, hr, hf => by
    rw [List.drop_eq_nil_of_le (by rw [Array.length_toList (xs := ops)]; omega)] at h
    exact hQ st C a h hr hf
  | m + 1, k, st, C, a, hk, h, hr, hf => by
    have hlt : k < ops.size := by omega
    rw [List.drop_eq_getElem_cons (by rw [Array.length_toList (xs := ops)]; exact hlt)] at h
    obtain ⟨hd, h⟩ := h
    rw [List.range'_succ]
    have hok : ops[k]? = some ops[k] := Array.getElem?_eq_getElem hlt
    unfold wpOpsIn
    simp only [hok]
    have hget : ops.toList[k]'(by rw [Array.length_toList (xs := ops)]; exact hlt) = ops[k] := Array.getElem_toList ..
    rw [hget] at h hd
    cases hg : ops[k].guard with
    | none =>
      rw [hg] at h
      rw [if_pos (wanted_none ops _ _ hg)]
      exact step_sound hr hf hd h (fun v obs new C' a' hk' hr' hf' => ops_sound ops hQ hP m (k + 1) _ C' a' (by omega) hk' hr' hf') hP
    | some jw =>
      obtain ⟨j, want⟩ := jw
      rw [hg] at h
      simp only [] at h
      by_cases hs : softOp ops[k].op = true
      · rw [if_pos hs] at h
        unfold softK at h
        split at h
        · rename_i g hge
          have hw := wanted_of hr ops hg hge
          rw [hw]
          obtain ⟨h1, h2⟩ := h
          cases g with
          | true =>
            rw [if_pos rfl]
            simp only [evS_true] at h1 h2
            obtain ⟨h3, h4⟩ := h1 trivial
            refine soft_step rfl hr (hf _ (Nat.le_refl _)) hd hs rfl h3 h4 (fun x C' hv hr' hρ hle => ?_)
            have hfu := hf.upd (C' := C') (u := []) trivial hρ
            exact ops_sound ops hQ hP m (k + 1) _ C' _ (by omega) h2 (Rel.nextS (o := ops[k]) (obs := st.obs) (new := st.new + 8) (hr'.new _) (.cndT hv) hd) (Free.nextS (obs := st.obs) (new := st.new + 8) hfu _)
          | false =>
            rw [if_neg (by simp)]
            refine ⟨fun _ _ => trivial, ?_⟩
            have hfu := hf.upd (C' := C) (u := []) trivial (fun _ _ _ => rfl)
            exact ops_sound ops hQ hP m (k + 1) _ C _ (by omega) h2 (Rel.nextS (o := ops[k]) (obs := st.obs) (new := st.new + 8) (hr.new _) .cndF hd) (Free.nextS (obs := st.obs) (new := st.new + 8) hfu _)
        · exact h.elim
      · rw [if_neg hs] at h
        simp only [guardK] at h
        split at h
        · rename_i b hb
          have hy := strip_bool hr ops j hb
          by_cases e : b = want
          · have hw : Region.wanted ops[k] (yielded ops a.tmps) = true := by simp [Region.wanted, hg, hy, e]
            rw [if_pos hw]
            exact step_sound hr hf hd (h.1 e) (fun v obs new C' a' hk' hr' hf' => ops_sound ops hQ hP m (k + 1) _ C' a' (by omega) hk' hr' hf') hP
          · rw [if_neg (show ¬ Region.wanted ops[k] (yielded ops a.tmps) = true by simp [Region.wanted, hg, hy, e])]
            refine ⟨fun _ _ => trivial, ?_⟩
            exact ops_sound ops hQ hP m (k + 1) _ C _ (by omega) (h.2 e) (Rel.nextS (o := ops[k]) (obs := st.obs) (new := st.new) hr (.val _) hd) (Free.nextS (obs := st.obs) (new := st.new) hf _)
        · rename_i xs hb
          have hy := strip_tup hr ops j hb
          rw [if_neg (show ¬ Region.wanted ops[k] (yielded ops a.tmps) = true by simp [Region.wanted, hg, hy])]
          refine ⟨fun _ _ => trivial, ?_⟩
          exact ops_sound ops hQ hP m (k + 1) _ C _ (by omega) h (Rel.nextS (o := ops[k]) (obs := st.obs) (new := st.new) hr (.val _) hd) (Free.nextS (obs := st.obs) (new := st.new) hf _)
        · exact h.elim
end
end Go.Proofs.Ytipolblhiljoiaa.Sy

namespace Go.Proofs.Ytipolblhiljoiaa.Sy
open Go Go.RowKit
set_option linter.unusedVariables false
set_option linter.unusedSimpArgs false

/-- What an operation did: its value, the blocks it wrote, the names that it looked at or wrote. -/
structure Tr where
  v : PV
  u : Upd
  T : List Nat

theorem exists_least (p : Nat → Prop) : ∀ n, p n → ∃ m, p m ∧ ∀ k, p k → m ≤ k := by
  intro n
  induction n using Nat.strongRecOn with
  | _ n ih =>
    intro hn
    by_cases h : ∃ k, k < n ∧ p k
    · obtain ⟨k, hk, hp⟩ := h
      exact ih k hk hp
    · exact ⟨n, hn, fun k hk => Nat.le_of_not_lt fun hlt => h ⟨k, hlt, hk⟩⟩
/-! ### Who waits for whom -/
def uni (a b : List Nat) : List Nat := b.foldl (fun l x => if l.contains x then l else x :: l) a
theorem mem_uni {x : Nat} : ∀ {b a : List Nat}, x ∈ uni a b → x ∈ a ∨ x ∈ b
  | [], a, h => .inl h
  | y :: b, a, h => by
    rw [uni, List.foldl_cons] at h
    rcases mem_uni (b := b) (a := if a.contains y then a else y :: a) h with h1 | h1
    · split at h1
      · exact .inl h1
      · rcases List.mem_cons.1 h1 with e | e
        · exact .inr (e ▸ List.mem_cons_self)
        · exact .inl e
    · exact .inr (List.mem_cons_of_mem _ h1)
def ancOf (acc : List (List Nat)) (p : List Nat) : List Nat := p.foldl (fun l k => uni l (acc.getD k [])) p
def ancs : List (List Nat) → List (List Nat) → List (List Nat)
  | [], acc => acc
  | p :: r, acc => ancs r (acc ++ [ancOf acc p])
theorem mem_ancOf {acc : List (List Nat)} {x : Nat} {p : List Nat} (h : x ∈ ancOf acc p) : x ∈ p ∨ ∃ k ∈ p, x ∈ acc.getD k [] := by
  suffices hh : ∀ (q l : List Nat), x ∈ q.foldl (fun l k => uni l (acc.getD k [])) l → x ∈ l ∨ ∃ k ∈ q, x ∈ acc.getD k [] from hh p p h
  intro q
  induction q with
  | nil => intro l h; exact .inl h
  | cons k q ih =>
    intro l h
    rw [List.foldl_cons] at h
    rcases ih _ h with h1 | ⟨k', h1, h2⟩
    · rcases mem_uni h1 with h2 | h2
      · exact .inl h2
      · exact .inr ⟨k, List.mem_cons_self, h2⟩
    · exact .inr ⟨k', List.mem_cons_of_mem _ h1, h2⟩
/-- Whoever is done, those it waits for are done. -/
def ClosedD (ps : List (List Nat)) (D : Nat → Bool) : Prop := ∀ i, D i = true → ∀ k ∈ ps.getD i [], D k = true
theorem ancs_sound {ps : List (List Nat)} {D : Nat → Bool} (hD : ClosedD ps D) : ∀ (r acc : List (List Nat)), (∃ q, ps = q ++ r ∧ q.length = acc.length) →
    (∀ i j, j ∈ acc.getD i [] → (∀ k ∈ ps.getD i [], D k = true) → D j = true) → ∀ i j, j ∈ (ancs r acc).getD i [] → (∀ k ∈ ps.getD i [], D k = true) → D j = true
  | [], acc, _, h => h
  | p :: r, acc, ⟨q, hq, hl⟩, h => by
    refine ancs_sound hD r (acc ++ [ancOf acc p]) ⟨q ++ [p], by simp [hq], by simp [hl]⟩ ?_
    intro i j hj hk
    by_cases hi : i < acc.length
    · rw [List.getD_eq_getElem?_getD, List.getElem?_append_left hi, ← List.getD_eq_getElem?_getD] at hj
      exact h i j hj hk
    · rw [List.getD_eq_getElem?_getD, List.getElem?_append_right (by omega)] at hj
      by_cases hi' : i = acc.length
      · subst hi'
        have hp : ps.getD acc.length [] = p := by rw [hq, ← hl, List.getD_eq_getElem?_getD]; simp
        rw [hp] at hk
        simp only [Nat.sub_self, List.getElem?_cons_zero, Option.getD_some] at hj
        rcases mem_ancOf hj with h1 | ⟨k, h1, h2⟩
        · exact hk j h1
        · exact h k j h2 (fun m hm => hD k (hk k h1) m hm)
      · have : (i - acc.length) ≥ 1 := by omega
        rw [List.getElem?_eq_none (by simp; omega)] at hj
        cases hj

/-- Names and temporaries of an operation, and whom it waits for. -/
def predsOf (o : Oper) : List Nat := (o.after.toList.filter (Region.binds .any)).map (·.on)
def conf (ops : Array Oper) (oi oj : Oper) (xi xj : Tr) : Bool :=
  (match oj.dst with
   | some d => (oi.looksAt ops).contains d || oi.dst == some d
   | none => false) || xj.u.any fun y => xi.T.contains y.1
def chkPair (ops : Array Oper) (anc : List (List Nat)) (i j : Nat) (oi oj : Oper) (xi xj : Tr) : Bool :=
  i == j || !conf ops oi oj xi xj || (Nat.blt j i && (anc.getD i []).contains j) || (Nat.blt i j && (anc.getD j []).contains i)
def chkRow (ops : Array Oper) (anc : List (List Nat)) (i : Nat) (oi : Oper) (xi : Tr) : Nat → List (Oper × Tr) → Bool
  | _, [] => true
  | j, (oj, xj) :: r => chkPair ops anc i j oi oj xi xj && chkRow ops anc i oi xi (j + 1) r
def chkOne (base : Nat) (anc : List (List Nat)) (i : Nat) (o : Oper) (x : Tr) : Bool :=
  (predsOf o).all (fun k => Nat.blt k i) && x.T.all (fun n => Nat.blt n base || (n - base) / 8 == i || (anc.getD i []).contains ((n - base) / 8)) && x.u.all (fun y => x.T.contains y.1)
def chkAll (ops : Array Oper) (base : Nat) (anc : List (List Nat)) (all : List (Oper × Tr)) : Nat → List (Oper × Tr) → Bool
  | _, [] => true
  | i, (o, x) :: r => chkOne base anc i o x && chkRow ops anc i o x 0 all && chkAll ops base anc all (i + 1) r
def drawOk (ops : Array Oper) (base : Nat) (tr : List Tr) : Bool :=
  tr.length == ops.size && chkAll ops base (ancs (ops.toList.map predsOf) []) (ops.toList.zip tr) 0 (ops.toList.zip tr)

/-! ### The state, when some are done -/
def skipSt (st : St) : St := ⟨st.n, st.regs, st.obs, st.new + 8⟩
def stM (D : Nat → Bool) : Nat → List (Oper × Tr) → St → St
  | _, [], st => st
  | k, (o, x) :: r, st => stM D (k + 1) r (if D k then nextSt o st x.v x.u else skipSt st)
theorem nextSt_n (o : Oper) (st : St) (v : PV) (u : Upd) : (nextSt o st v u).n = st.n := by unfold nextSt; split <;> rfl
theorem nextSt_new (o : Oper) (st : St) (v : PV) (u : Upd) : (nextSt o st v u).new = st.new + 8 := by unfold nextSt; split <;> rfl
theorem nextSt_obs (o : Oper) (st : St) (v : PV) (u : Upd) : (nextSt o st v u).obs = applyU st.obs u := by unfold nextSt; split <;> rfl
theorem nextSt_look (o : Oper) (st : St) (v : PV) (u : Upd) (t : Nat) : look (nextSt o st v u).regs t = if o.dst = some t then v else look st.regs t := by
  unfold nextSt
  cases h : o.dst with
  | none => simp
  | some d => simp only [look, Option.some.injEq]
theorem updAt_no {old : Option Ob} {n : Nat} : ∀ {u : Upd}, (∀ y ∈ u, y.1 ≠ n) → updAt old n u = old
  | [], _ => rfl
  | (m, x) :: u, h => by
    rw [updAt, if_neg (h (m, x) List.mem_cons_self)]
    exact updAt_no (fun y hy => h y (List.mem_cons_of_mem _ hy))
theorem stM_n (D : Nat → Bool) : ∀ (l : List (Oper × Tr)) (k : Nat) (st : St), (stM D k l st).n = st.n
  | [], _, _ => rfl
  | (o, x) :: r, k, st => by
    rw [stM, stM_n D r]
    split
    · exact nextSt_n ..
    · rfl
theorem stM_new (D : Nat → Bool) : ∀ (l : List (Oper × Tr)) (k : Nat) (st : St), (stM D k l st).new = st.new + 8 * l.length
  | [], _, _ => rfl
  | (o, x) :: r, k, st => by
    rw [stM, stM_new D r, List.length_cons]
    split
    · rw [nextSt_new]; omega
    · show st.new + 8 + _ = _; omega
/-- Only those who write a temporary matter for it. -/
theorem stM_look {D D' : Nat → Bool} {t : Nat} : ∀ (l : List (Oper × Tr)) (k : Nat) (st st' : St), (∀ j o x, l[j]? = some (o, x) → o.dst = some t → D (k + j) = D' (k + j)) → look st.regs t = look st'.regs t →
    look (stM D k l st).regs t = look (stM D' k l st').regs t
  | [], _, _, _, _, h => h
  | (o, x) :: r, k, st, st', hd, h => by
    rw [stM, stM]
    refine stM_look r (k + 1) _ _ (fun j o' x' hj ho => by have := hd (j + 1) o' x' (by simpa using hj) ho; rwa [Nat.add_comm j 1, ← Nat.add_assoc] at this) ?_
    have h0 := hd 0 o x rfl
    by_cases e : o.dst = some t
    · have := h0 e
      rw [Nat.add_zero] at this
      rw [this]
      split
      · rw [nextSt_look, nextSt_look, if_pos e, if_pos e]
      · exact h
    · split <;> split <;> simp only [nextSt_look, e, if_false, skipSt, h]
theorem stM_lookO {D D' : Nat → Bool} {n : Nat} : ∀ (l : List (Oper × Tr)) (k : Nat) (st st' : St), (∀ j o x, l[j]? = some (o, x) → (∃ y ∈ x.u, y.1 = n) → D (k + j) = D' (k + j)) → lookO st.obs n = lookO st'.obs n →
    lookO (stM D k l st).obs n = lookO (stM D' k l st').obs n
  | [], _, _, _, _, h => h
  | (o, x) :: r, k, st, st', hd, h => by
    rw [stM, stM]
    refine stM_lookO r (k + 1) _ _ (fun j o' x' hj ho => by have := hd (j + 1) o' x' (by simpa using hj) ho; rwa [Nat.add_comm j 1, ← Nat.add_assoc] at this) ?_
    have h0 := hd 0 o x rfl
    by_cases e : ∃ y ∈ x.u, y.1 = n
    · have := h0 e
      rw [Nat.add_zero] at this
      rw [this]
      split
      · rw [nextSt_obs, nextSt_obs, lookO_applyU, lookO_applyU, h]
      · exact h
    · have hno : ∀ y ∈ x.u, y.1 ≠ n := fun y hy he => e ⟨y, hy, he⟩
      split <;> split <;> simp only [nextSt_obs, lookO_applyU, updAt_no hno, skipSt, h]
/-- A walk's state before its k-th operation, in the text's order. -/
def stT : List (Oper × Tr) → Nat → St → St
  | _, 0, st => st
  | [], _ + 1, st => st
  | (o, x) :: r, k + 1, st => stT r k (nextSt o st x.v x.u)
theorem stT_succ : ∀ (l : List (Oper × Tr)) (i : Nat) (st : St) (o : Oper) (x : Tr), l[i]? = some (o, x) → stT l (i + 1) st = nextSt o (stT l i st) x.v x.u
  | [], i, st, o, x, h => by simp at h
  | (o', x') :: r, 0, st, o, x, h => by
    simp only [List.getElem?_cons_zero, Option.some.injEq, Prod.mk.injEq] at h
    rw [← h.1, ← h.2]
    cases r <;> rfl
  | (o', x') :: r, i + 1, st, o, x, h => by
    rw [stT, stT_succ r i _ o x (by simpa using h)]; rfl
theorem stM_none (D : Nat → Bool) : ∀ (l : List (Oper × Tr)) (k : Nat) (st : St), (∀ j, k ≤ j → D j = false) → (stM D k l st).regs = st.regs ∧ (stM D k l st).obs = st.obs
  | [], _, _, _ => ⟨rfl, rfl⟩
  | (o, x) :: r, k, st, h => by
    rw [stM, if_neg (by rw [h k (Nat.le_refl _)]; simp)]
    exact stM_none D r (k + 1) _ (fun j hj => h j (by omega))
theorem stM_pre : ∀ (l : List (Oper × Tr)) (k i : Nat) (st : St), (stM (fun j => decide (j < k + i)) k l st).regs = (stT l i st).regs ∧ (stM (fun j => decide (j < k + i)) k l st).obs = (stT l i st).obs
  | l, k, 0, st => by
    rw [stT]
    exact stM_none _ l k st (fun j hj => by simp; omega)
  | [], k, i + 1, st => ⟨rfl, rfl⟩
  | (o, x) :: r, k, i + 1, st => by
    rw [stT, stM, if_pos (by simp)]
    have := stM_pre r (k + 1) i (nextSt o st x.v x.u)
    rwa [show k + 1 + i = k + (i + 1) by omega] at this
theorem stM_all (D : Nat → Bool) : ∀ (l : List (Oper × Tr)) (k : Nat) (st : St), (∀ j, j < k + l.length → D j = true) → stM D k l st = stT l l.length st
  | [], _, _, _ => rfl
  | (o, x) :: r, k, st, h => by
    rw [stM, if_pos (h k (by simp)), List.length_cons, stT]
    exact stM_all D r (k + 1) _ (fun j hj => h j (by rw [List.length_cons]; omega))
section
variable {P : Program} {E : En} {C : Cx} {st st' : St} {a : Act}
theorem Rel.congr (hr : Rel E C st a) (hn : st'.n = st.n) (h1 : ∀ t, look st'.regs t = look st.regs t) (h2 : ∀ n, lookO st'.obs n = lookO st.obs n) : Rel E C st' a :=
  ⟨hr.size.trans hn.symm, fun t => by rw [h1]; exact hr.regs t, fun nm ob h => hr.obs nm ob (by rw [← h2]; exact h), fun nm nm' b ob ob' g1 g2 => hr.inj nm nm' b ob ob' (by rw [← h2]; exact g1) (by rw [← h2]; exact g2),
    fun nm ob b h => hr.own nm ob b (by rw [← h2]; exact h), hr.sub, hr.fr, hr.old, hr.up, hr.keep, hr.defs⟩
/-- What an operation of a region does, whatever the other ones have done that it does not look at. -/
def OpOk (P : Program) (ops : Array Oper) (i : Nat) (o : Oper) (st : St) (x : Tr) : Prop :=
  ∀ (st' : St) (E : En) (r : Option Nat) (n : Nat) (C : Cx) (a : Act) (Q : Exit → Act → World → Prop) (K : Act → World → Prop), st'.n = st.n → st'.new = st.new → (∀ t ∈ o.looksAt ops, look st'.regs t = look st.regs t) → (∀ m ∈ x.T, lookO st'.obs m = lookO st.obs m) →
    Rel E C st' a → (∀ k, k < 8 → C.ρ (st.new + k) = none ∧ lookO st'.obs (st.new + k) = none) →
    (∀ a' C', Rel E C' (nextSt o st' x.v x.u) a' → (∀ k, ¬ (st.new ≤ k ∧ k < st.new + 8) → lookO st'.obs k = none → C'.ρ k = C.ρ k) → K a' C'.W) → wpOpIn (Fw r) n P ops Q i K a C.W
def TraceOk (P : Program) (ops : Array Oper) (st : St) (l : List (Oper × Tr)) : Prop := ∀ i o x, l[i]? = some (o, x) → OpOk P ops i o (stT l i st) x
theorem chkRow_get {ops : Array Oper} {anc : List (List Nat)} {i : Nat} {oi : Oper} {xi : Tr} : ∀ (l : List (Oper × Tr)) (k : Nat), chkRow ops anc i oi xi k l = true → ∀ j o x, l[j]? = some (o, x) → chkPair ops anc i (k + j) oi o xi x = true
  | [], k, h, j, o, x, hj => by simp at hj
  | (o', x') :: r, k, h, 0, o, x, hj => by
    rw [chkRow, Bool.and_eq_true] at h
    simp only [List.getElem?_cons_zero, Option.some.injEq, Prod.mk.injEq] at hj
    rw [← hj.1, ← hj.2]; exact h.1
  | (o', x') :: r, k, h, j + 1, o, x, hj => by
    rw [chkRow, Bool.and_eq_true] at h
    have := chkRow_get r (k + 1) h.2 j o x (by simpa using hj)
    rwa [show k + 1 + j = k + (j + 1) by omega] at this
theorem chkAll_get {ops : Array Oper} {base : Nat} {anc : List (List Nat)} {all : List (Oper × Tr)} : ∀ (l : List (Oper × Tr)) (k : Nat), chkAll ops base anc all k l = true → ∀ i o x, l[i]? = some (o, x) → chkOne base anc (k + i) o x = true ∧ chkRow ops anc (k + i) o x 0 all = true
  | [], k, h, i, o, x, hj => by simp at hj
  | (o', x') :: r, k, h, 0, o, x, hj => by
    rw [chkAll, Bool.and_eq_true, Bool.and_eq_true] at h
    simp only [List.getElem?_cons_zero, Option.some.injEq, Prod.mk.injEq] at hj
    rw [← hj.1, ← hj.2]; exact h.1
  | (o', x') :: r, k, h, i + 1, o, x, hj => by
    rw [chkAll, Bool.and_eq_true] at h
    have := chkAll_get r (k + 1) h.2 i o x (by simpa using hj)
    rwa [show k + 1 + i = k + (i + 1) by omega] at this
theorem ps_get {l : List (Oper × Tr)} {i : Nat} {o : Oper} {x : Tr} (h : l[i]? = some (o, x)) : (l.map fun y => predsOf y.1).getD i [] = predsOf o := by
  rw [List.getD_eq_getElem?_getD, List.getElem?_map, h]; rfl
theorem ord_of {ops : Array Oper} {l : List (Oper × Tr)} {D : Nat → Bool} {i j : Nat} {oi oj : Oper} {xi xj : Tr} (hD : ClosedD (l.map fun y => predsOf y.1) D) (hi : l[i]? = some (oi, xi)) (hj : l[j]? = some (oj, xj))
    (hpair : chkPair ops (ancs (l.map fun y => predsOf y.1) []) i j oi oj xi xj = true) (hc : conf ops oi oj xi xj = true) (hdi : D i = false) (hp : ∀ k ∈ predsOf oi, D k = true) : D j = decide (j < i) := by
  have anc := ancs_sound hD (l.map fun y => predsOf y.1) [] ⟨[], rfl, rfl⟩ (fun i j h => by simp at h)
  unfold chkPair at hpair
  rw [hc] at hpair
  simp only [Bool.not_true, Bool.or_false, Bool.or_eq_true, beq_iff_eq, Bool.and_eq_true] at hpair
  rcases hpair with (h | ⟨h1, h2⟩) | ⟨h1, h2⟩
  · subst h; rw [hdi]; simp
  · have h1 : j < i := Nat.lt_of_succ_le (by simpa [Nat.blt] using h1)
    rw [anc i j (by simpa using h2) (by rw [ps_get hi]; exact hp)]; simp [h1]
  · have h1 : i < j := Nat.lt_of_succ_le (by simpa [Nat.blt] using h1)
    have : D j = false := by
      cases hdj : D j with
      | false => rfl
      | true =>
        have := anc j i (by simpa using h2) (fun k hk => hD j hdj k hk)
        rw [hdi] at this; cases this
    rw [this]; simp; omega
theorem getD_set_at {listed : Array Bool} {i : Nat} (h : i < listed.size) (d : Bool) : (listed.setIfInBounds i true).getD i d = true := by
  simp [h]
theorem draw_any {ops : Array Oper} {l : List (Oper × Tr)} {st0 : St} {r : Option Nat} {n base : Nat} {Q : Exit → Act → World → Prop} (hl : l.map (·.1) = ops.toList) (hbase : st0.new = base)
    (hchk : chkAll ops base (ancs (l.map fun y => predsOf y.1) []) l 0 l = true) (htr : TraceOk P ops st0 l)
    (hQ : ∀ C a, Rel E C (stT l l.length st0) a → (∀ m, base + 8 * l.length ≤ m → C.ρ m = none ∧ lookO (stT l l.length st0).obs m = none) → Q .normal a C.W) :
    ∀ (fuel : Nat) (listed : Array Bool) (D : Nat → Bool) (C : Cx) (a : Act), (∀ j, D j = listed.getD j false) → listed.size = ops.size → ClosedD (l.map fun y => predsOf y.1) D → Rel E C (stM D 0 l st0) a →
      (∀ m, base ≤ m → D ((m - base) / 8) = false → C.ρ m = none ∧ lookO (stM D 0 l st0).obs m = none) → listed.toList.count false ≤ fuel → wpAnyIn (Fw r) n P .any ops Q fuel listed a C.W := by
  have hlen : l.length = ops.size := by
    have := congrArg List.length hl
    rw [List.length_map, Array.length_toList (xs := ops)] at this; exact this
  have hget : ∀ (i : Nat) (o : Oper), ops[i]? = some o → ∃ x, l[i]? = some (o, x) := fun i o h => by
    have h2 : (l.map (·.1))[i]? = some o := by rw [hl, Array.getElem?_toList]; exact h
    rw [List.getElem?_map] at h2
    cases h3 : l[i]? with
    | none => rw [h3] at h2; cases h2
    | some y => rw [h3] at h2; simp only [Option.map_some, Option.some.injEq] at h2; exact ⟨y.2, by rw [← h2]⟩
  have hone := fun (i : Nat) (o : Oper) (x : Tr) (h : l[i]? = some (o, x)) => (chkAll_get l 0 hchk i o x h).1
  have hpair : ∀ (i j : Nat) (oi : Oper) (xi : Tr) (oj : Oper) (xj : Tr), l[i]? = some (oi, xi) → l[j]? = some (oj, xj) → chkPair ops (ancs (l.map fun y => predsOf y.1) []) i j oi oj xi xj = true := fun i j oi xi oj xj h1 h2 => by
    have := chkRow_get l 0 (chkAll_get l 0 hchk i oi xi h1).2 j oj xj h2
    simpa using this
  have done : ∀ (listed : Array Bool) (D : Nat → Bool) (C : Cx) (a : Act), (∀ j, D j = listed.getD j false) → listed.size = ops.size → Rel E C (stM D 0 l st0) a →
      (∀ m, base ≤ m → D ((m - base) / 8) = false → C.ρ m = none ∧ lookO (stM D 0 l st0).obs m = none) → (∀ j, j < ops.size → D j = true) → Q .normal a C.W := by
    intro listed D C a hD hsz hr hfree hall
    have e := stM_all D l 0 st0 (fun j hj => hall j (by omega))
    rw [e] at hr hfree
    refine hQ C a hr (fun m hm => hfree m (by omega) ?_)
    rw [hD]
    have : ¬ (m - base) / 8 < listed.size := by omega
    simp [this]
  have least : ∀ (listed : Array Bool) (D : Nat → Bool), (∀ j, D j = listed.getD j false) → listed.size = ops.size → Region.ready .any ops listed = [] → ∀ j, j < ops.size → D j = true := by
    intro listed D hD hsz hready j hj
    cases hdj : D j with
    | true => rfl
    | false =>
      exfalso
      obtain ⟨i, ⟨hi1, hi2⟩, hi3⟩ := exists_least (fun i => i < ops.size ∧ D i = false) j ⟨hj, hdj⟩
      have hoi : ops[i]? = some ops[i] := Array.getElem?_eq_getElem hi1
      obtain ⟨x, hx⟩ := hget i _ hoi
      have hmem : i ∈ Region.ready .any ops listed := by
        refine mem_ready.2 ⟨?_, _, hoi, fun e he hb => ?_⟩
        · rw [hD] at hi2; simp [hsz, hi1] at hi2 ⊢; exact hi2
        · have h1 := hone i _ x hx
          unfold chkOne at h1
          simp only [Bool.and_eq_true, List.all_eq_true] at h1
          have h2 := h1.1.1 e.on (by
            unfold predsOf
            exact List.mem_map.2 ⟨e, List.mem_filter.2 ⟨by simpa using he, hb⟩, rfl⟩)
          have h3 : e.on < i := Nat.lt_of_succ_le (by simpa [Nat.blt] using h2)
          rw [← hD]
          cases hde : D e.on with
          | true => rfl
          | false => have := hi3 e.on ⟨by omega, hde⟩; omega
      rw [hready] at hmem; cases hmem
  intro fuel
  induction fuel with
  | zero =>
    intro listed D C a hD hsz hcl hr hfree hcnt
    have hall : ∀ j, j < ops.size → D j = true := fun j hj => by
      rw [hD]
      have hz : listed.toList.count false = 0 := by omega
      have := List.count_eq_zero.1 hz
      have hj' : j < listed.size := by omega
      simp only [Array.getD_eq_getD_getElem?, Array.getElem?_eq_getElem hj', Option.getD_some]
      cases hv : listed[j] with
      | true => rfl
      | false => exact absurd (by rw [← hv]; exact Array.getElem_mem_toList hj') this
    refine ⟨?_, done listed D C a hD hsz hr hfree hall⟩
    cases hrd : Region.ready .any ops listed with
    | nil => rfl
    | cons i t =>
      exfalso
      have hi : i ∈ Region.ready .any ops listed := by rw [hrd]; exact List.mem_cons_self
      obtain ⟨h1, o, h2, _⟩ := mem_ready.1 hi
      have h3 : i < ops.size := (Array.getElem?_eq_some_iff.1 h2).1
      have := hall i h3
      rw [hD] at this
      have h4 : i < listed.size := by omega
      simp [h4] at h1 this
      rw [h1] at this; cases this
  | succ fuel ih =>
    intro listed D C a hD hsz hcl hr hfree hcnt
    refine ⟨fun hready => done listed D C a hD hsz hr hfree (least listed D hD hsz hready), fun i hi => ?_⟩
    obtain ⟨h1, o, hoi, hafter⟩ := mem_ready.1 hi
    have hisz : i < ops.size := (Array.getElem?_eq_some_iff.1 hoi).1
    have hil : i < listed.size := by omega
    obtain ⟨x, hx⟩ := hget i o hoi
    have hdi : D i = false := by rw [hD]; simp [hil] at h1 ⊢; exact h1
    have hp : ∀ k ∈ predsOf o, D k = true := fun k hk => by
      unfold predsOf at hk
      obtain ⟨e, he, rfl⟩ := List.mem_map.1 hk
      rw [List.mem_filter] at he
      rw [hD]; exact hafter e (by simpa using he.1) he.2
    have hord : ∀ j oj xj, l[j]? = some (oj, xj) → conf ops o oj x xj = true → D j = decide (j < i) := fun j oj xj hj hc => ord_of hcl hx hj (hpair i j o x oj xj hx hj) hc hdi hp
    have hnew : (stT l i st0).new = base + 8 * i := by
      have : ∀ (l : List (Oper × Tr)) (i : Nat) (st : St), i ≤ l.length → (stT l i st).new = st.new + 8 * i := by
        intro l
        induction l with
        | nil => intro i st h; have : i = 0 := by simpa using h
                 subst this; rfl
        | cons y l ih =>
          intro i st h
          cases i with
          | zero => rfl
          | succ i => rw [stT, ih i _ (by simpa using h), nextSt_new]; omega
      rw [this l i st0 (by omega), hbase]
    have hn : (stT l i st0).n = st0.n := by
      have : ∀ (l : List (Oper × Tr)) (i : Nat) (st : St), (stT l i st).n = st.n := by
        intro l
        induction l with
        | nil => intro i st; cases i <;> rfl
        | cons y l ih =>
          intro i st
          cases i with
          | zero => rfl
          | succ i => rw [stT, ih i _, nextSt_n]
      exact this l i st0
    have hpre := stM_pre l 0 i st0
    simp only [Nat.zero_add] at hpre
    obtain ⟨st', hst'⟩ : ∃ st' : St, st' = ⟨st0.n, (stM D 0 l st0).regs, (stM D 0 l st0).obs, (stT l i st0).new⟩ := ⟨_, rfl⟩
    have hr' : Rel E C st' a := hr.congr (by rw [hst', stM_n]) (fun t => by rw [hst']) (fun m => by rw [hst'])
    have hlook : ∀ t ∈ o.looksAt ops, look st'.regs t = look (stT l i st0).regs t := fun t ht => by
      rw [hst', ← hpre.1]
      refine stM_look l 0 st0 st0 (fun j oj xj hj hdst => ?_) rfl
      rw [Nat.zero_add]
      refine hord j oj xj hj ?_
      unfold conf
      rw [hdst]
      simp [ht]
    have hlookO : ∀ m ∈ x.T, lookO st'.obs m = lookO (stT l i st0).obs m := fun m hm => by
      rw [hst', ← hpre.2]
      refine stM_lookO l 0 st0 st0 (fun j oj xj hj hw => ?_) rfl
      rw [Nat.zero_add]
      refine hord j oj xj hj ?_
      obtain ⟨y, hy1, hy2⟩ := hw
      unfold conf
      simp only [Bool.or_eq_true, List.any_eq_true]
      exact .inr ⟨y, hy1, by rw [hy2]; simpa using hm⟩
    have h1i := hone i o x hx
    rw [Nat.zero_add] at h1i
    unfold chkOne at h1i
    simp only [Bool.and_eq_true, List.all_eq_true] at h1i
    refine htr i o x hx st' E r n C a Q _ (by rw [hst', hn]) (by rw [hst']) hlook hlookO hr' (fun k hk => ?_) ?_
    · rw [hnew, hst']
      exact hfree _ (by omega) (by rw [show (base + 8 * i + k - base) / 8 = i by omega]; exact hdi)
    · intro a' C' hra hρ
      obtain ⟨D', hD'⟩ : ∃ D' : Nat → Bool, D' = fun j => (listed.setIfInBounds i true).getD j false := ⟨_, rfl⟩
      have hD'i : D' i = true := by rw [hD']; exact getD_set_at hil false
      have hD'j : ∀ j, j ≠ i → D' j = D j := fun j hj => by rw [hD', hD]; exact getD_set_ne false (Ne.symm hj)
      have hord' : ∀ j oj xj, l[j]? = some (oj, xj) → conf ops o oj x xj = true → D' j = decide (j < i + 1) := fun j oj xj hj hc => by
        by_cases e : j = i
        · subst e; rw [hD'i]; simp
        · rw [hD'j j e, hord j oj xj hj hc]
          rw [decide_eq_decide]; omega
      have hpre' := stM_pre l 0 (i + 1) st0
      simp only [Nat.zero_add] at hpre'
      rw [stT_succ l i st0 o x hx] at hpre'
      have lk : ∀ t, look (stM D' 0 l st0).regs t = look (nextSt o st' x.v x.u).regs t := fun t => by
        rw [nextSt_look]
        by_cases e : o.dst = some t
        · rw [if_pos e]
          have : look (stM D' 0 l st0).regs t = look (stM (fun j => decide (j < i + 1)) 0 l st0).regs t :=
            stM_look l 0 st0 st0 (fun j oj xj hj hdst => by
              rw [Nat.zero_add]
              exact hord' j oj xj hj (by unfold conf; rw [hdst]; simp [e])) rfl
          rw [this, hpre'.1, nextSt_look, if_pos e]
        · rw [if_neg e, hst']
          refine stM_look l 0 st0 st0 (fun j oj xj hj hdst => ?_) rfl
          rw [Nat.zero_add]
          refine hD'j j (fun hji => ?_)
          subst hji
          rw [hx] at hj; cases hj
          exact e hdst
      have lko : ∀ m, lookO (stM D' 0 l st0).obs m = lookO (nextSt o st' x.v x.u).obs m := fun m => by
        rw [nextSt_obs, lookO_applyU]
        by_cases e : ∃ y ∈ x.u, y.1 = m
        · have hmT : m ∈ x.T := by
            obtain ⟨y, hy1, hy2⟩ := e
            have := h1i.2 y hy1
            rw [hy2] at this; simpa using this
          have : lookO (stM D' 0 l st0).obs m = lookO (stM (fun j => decide (j < i + 1)) 0 l st0).obs m :=
            stM_lookO l 0 st0 st0 (fun j oj xj hj hw => by
              rw [Nat.zero_add]
              refine hord' j oj xj hj ?_
              obtain ⟨y, hy1, hy2⟩ := hw
              unfold conf
              simp only [Bool.or_eq_true, List.any_eq_true]
              exact .inr ⟨y, hy1, by rw [hy2]; simpa using hmT⟩) rfl
          rw [this, hpre'.2, nextSt_obs, lookO_applyU, hlookO m hmT]
        · rw [updAt_no (fun y hy he => e ⟨y, hy, he⟩), hst']
          refine stM_lookO l 0 st0 st0 (fun j oj xj hj hw => ?_) rfl
          rw [Nat.zero_add]
          refine hD'j j (fun hji => ?_)
          subst hji
          rw [hx] at hj; cases hj
          exact e hw
      refine ih (listed.setIfInBounds i true) D' C' a' (fun j => by rw [hD']) (by rw [Array.size_setIfInBounds]; exact hsz) ?_ (hra.congr (by rw [stM_n, nextSt_n, hst']) lk lko) ?_ ?_
      · intro k hk m hm
        by_cases e : k = i
        · subst e
          rw [ps_get hx] at hm
          have hDm := hp m hm
          by_cases e2 : m = k
          · rw [e2]; exact hD'i
          · rw [hD'j m e2]; exact hDm
        · rw [hD'j k e] at hk
          have hDm := hcl k hk m hm
          by_cases e2 : m = i
          · rw [e2]; exact hD'i
          · rw [hD'j m e2]; exact hDm
      · intro m hm hdm
        have hslot : (m - base) / 8 ≠ i := fun e => by rw [e, hD'i] at hdm; cases hdm
        rw [hD'j _ hslot] at hdm
        have h0 := hfree m hm hdm
        refine ⟨(hρ m (by rw [hnew]; omega) (by rw [hst']; exact h0.2)).trans h0.1, ?_⟩
        rw [lko, nextSt_obs, lookO_applyU, updAt_no, hst']
        · exact h0.2
        · intro y hy he
          have hmT : m ∈ x.T := by
            have := h1i.2 y hy
            rw [he] at this; simpa using this
          have := h1i.1.2 m hmT
          simp only [Bool.or_eq_true, beq_iff_eq] at this
          rcases this with (h | h) | h
          · have : m < base := Nat.lt_of_succ_le (by simpa [Nat.blt] using h)
            omega
          · exact hslot h
          · have anc := ancs_sound hcl (l.map fun y => predsOf y.1) [] ⟨[], rfl, rfl⟩ (fun i j h => by simp at h) i _ (by simpa using h) (by rw [ps_get hx]; exact hp)
            rw [hdm] at anc; cases anc
      · have hcs : (listed.setIfInBounds i true).toList.count false + 1 = listed.toList.count false := by
          rw [Array.toList_setIfInBounds]
          have hil' : i < listed.toList.length := by rw [Array.length_toList]; exact hil
          have hli : listed.toList[i] = false := by
            rw [Array.getElem_toList]
            simp [hil] at h1; exact h1
          have hpos : 0 < listed.toList.count false := List.count_pos_iff.2 (by rw [← hli]; exact List.getElem_mem hil')
          rw [List.count_set hil', hli]
          have e1 : (true == false) = false := rfl
          simp only [beq_self_eq_true, if_true, e1, Bool.false_eq_true, if_false]
          omega
        omega
end
end Go.Proofs.Ytipolblhiljoiaa.Sy

namespace Go.Proofs.Ytipolblhiljoiaa.Sy
open Go Go.RowKit
set_option linter.unusedVariables false
set_option linter.unusedSimpArgs false

def names0 : PV → List Nat
  | .ref nm _ _ _ => [nm]
  | .sl nm _ _ _ => [nm]
  | .mp nm => [nm]
  | .yld nm => [nm]
  | _ => []
section
variable {P : Program} {ev ev' : Operand → PV} {ob ob' : Nat → Option Ob} {o : Oper} {new : Nat}
theorem scal_local (hs : ∀ cs b, o.op ≠ .select cs b) (hv : ∀ y ∈ o.op.operands, ev' y = ev y) : scal P ev' o = scal P ev o := by
  have e1 : execOp (fun x => (toV (ev' x)).getD undef) o = execOp (fun x => (toV (ev x)).getD undef) o := execOp_congr o hs fun y hy => by rw [hv y hy]
  have e2 : (∀ x ∈ o.op.operands, (toV (ev' x)).isSome = true) = (∀ x ∈ o.op.operands, (toV (ev x)).isSome = true) :=
    propext ⟨fun h x hx => by rw [← hv x hx]; exact h x hx, fun h x hx => by rw [hv x hx]; exact h x hx⟩
  unfold scal
  rw [e1, e2]
theorem aLoad_local {T : TypeId} {p : PV} (h : ∀ n ∈ names0 p, ob' n = ob n) : aLoad P T p ob' = aLoad P T p ob := by
  unfold aLoad
  cases P.underlying T with
  | none => rfl
  | some d =>
    cases tsize P T with
    | none => rfl
    | some n =>
      cases p with
      | ref nm sz row off => dsimp only; rw [h nm List.mem_cons_self]
      | _ => rfl
theorem aStore_local {T : TypeId} {p q : PV} (h : ∀ n ∈ names0 p, ob' n = ob n) : aStore P T p q ob' = aStore P T p q ob := by
  cases p with
  | ref nm sz row off => unfold aStore; dsimp only; rw [h nm List.mem_cons_self]
  | val v => cases v <;> first | rfl | (rename_i a l c; cases a <;> cases l <;> cases c <;> rfl)
  | _ => rfl
theorem lowS_local {p : PV} (h : ∀ n ∈ names0 p, ob' n = ob n) : lowS ob' p = lowS ob p := by
  cases p with
  | sl nm sz off len => unfold lowS; dsimp only; rw [h nm List.mem_cons_self]
  | val v => cases v <;> first | rfl | (rename_i a l c; cases a <;> cases l <;> cases c <;> rfl)
  | _ => rfl
theorem lowOk_local {sz : Nat} {p : PV} (h : ∀ n ∈ names0 p, ob' n = ob n) : lowOk sz ob' p = lowOk sz ob p := by
  cases p with
  | sl nm sz off len => unfold lowOk; dsimp only; rw [h nm List.mem_cons_self]
  | val v => cases v <;> first | rfl | (rename_i a l c; cases a <;> cases l <;> cases c <;> rfl)
  | _ => rfl
theorem dstOk_local {e : TypeId} {sz : Nat} {p : PV} (h : ∀ n ∈ names0 p, ob' n = ob n) : dstOk P e sz ob' p = dstOk P e sz ob p := by
  cases p with
  | sl nm sz off len => unfold dstOk; dsimp only; rw [h nm List.mem_cons_self]
  | val v => cases v <;> first | rfl | (rename_i a l c; cases a <;> cases l <;> cases c <;> rfl)
  | _ => rfl
theorem aAppend_local {t : TypeId} {p q : PV} (h : ∀ n ∈ names0 p, ob' n = ob n) (h' : ∀ n ∈ names0 q, ob' n = ob n) : aAppend P t p q ob' new = aAppend P t p q ob new := by
  unfold aAppend
  simp only [lowS_local h, lowS_local h', dstOk_local h, lowOk_local h']
theorem aAppendS_local {t u : TypeId} {p q : PV} (h : ∀ n ∈ names0 p, ob' n = ob n) : aAppendS P t u p q ob' new = aAppendS P t u p q ob new := by
  unfold aAppendS
  simp only [lowS_local h, dstOk_local h]
theorem aConvert_local {s d : TypeId} {p : PV} {sc : R} (h : ∀ n ∈ names0 p, ob' n = ob n) : aConvert P s d p ob' sc = aConvert P s d p ob sc := by
  unfold aConvert
  generalize P.underlying s = us
  generalize P.underlying d = ud
  cases us with
  | none => rfl
  | some us =>
    cases ud with
    | none => cases us <;> rfl
    | some ud => cases us <;> cases ud <;> first | rfl | (dsimp only; rw [lowS_local h]; simp only [lowOk_local h]; done) | (cases p <;> first | rfl | (rename_i v; cases v <;> rfl))
theorem aLookup_local {t : TypeId} {p k : PV} {c : Bool} (h : ∀ n ∈ names0 p, ob' n = ob n) : aLookup P t p k c ob' = aLookup P t p k c ob := by
  cases p with
  | mp nm =>
    have hh := h nm List.mem_cons_self
    unfold aLookup
    cases P.underlying t with
    | none => rfl
    | some d => cases d <;> first | rfl | (dsimp only; rw [hh])
  | _ => unfold aLookup; cases P.underlying t with
    | none => rfl
    | some d => cases d <;> rfl
theorem aMapUpdate_local {t : TypeId} {p k v : PV} (h : ∀ n ∈ names0 p, ob' n = ob n) : aMapUpdate P t p k v ob' = aMapUpdate P t p k v ob := by
  cases p with
  | mp nm =>
    have hh := h nm List.mem_cons_self
    unfold aMapUpdate
    cases P.underlying t with
    | none => rfl
    | some d => cases d <;> first | rfl | (dsimp only; rw [hh])
  | _ => unfold aMapUpdate; cases P.underlying t with
    | none => rfl
    | some d => cases d <;> rfl
theorem aLenM_local {t : TypeId} {nm : Nat} (h : ob' nm = ob nm) : aLenM P t nm ob' = aLenM P t nm ob := by
  unfold aLenM; rw [h]
theorem opt_local {α : Type} {x : Option Operand} {a : Array Operand} (h : ∀ y ∈ a, ev' y = ev y) (hx : ∀ y, x = some y → y ∈ a) : x.map ev' = x.map ev := by
  cases x with
  | none => rfl
  | some y => simp [h y (hx y rfl)]
theorem parts_local {parts : Array (Nat × Operand)} (h : ∀ y ∈ (parts.toList.map (·.2)).toArray, ev' y = ev y) : partsP ev' parts = partsP ev parts := by
  unfold partsP
  refine List.map_congr_left fun x hx => ?_
  rw [h x.2 (by simp; exact ⟨x.1, by simpa using hx⟩)]
/-- An operation looks at its operands, and at the blocks that these name. -/
theorem act_local (hv : ∀ y ∈ o.op.operands, ev' y = ev y) (hob : ∀ y ∈ o.op.operands, ∀ n ∈ names0 (ev y), ob' n = ob n) (h : (act P o ev ob new).ok) : act P o ev' ob' new = act P o ev ob new := by
  have hsc : (∀ cs b, o.op ≠ .select cs b) → scal P ev' o = scal P ev o := fun hs => scal_local hs hv
  unfold act at *
  cases ho : o.op
  case select cs b =>
    simp only [ho] at h
    unfold scal at h
    split at h
    · exact absurd ho (h.2.2 cs b)
    · exact h.elim
  all_goals have hsc := hsc (fun cs b e => by rw [ho] at e; cases e)
  all_goals simp only [ho, Op.operands] at hv hob ⊢
  case move x => rw [hv x (by simp)]
  case assign x => rw [hv x (by simp)]
  case pick c x y => rw [hv c (by simp), hv x (by simp), hv y (by simp)]
  case extract x i => rw [hv x (by simp)]
  case makeFunc fn first caps =>
    have e0 : first.toList.map ev' = first.toList.map ev := List.map_congr_left fun x hx => hv x (by simp; exact .inl (by simpa using hx))
    have : caps.toList.map ev' = caps.toList.map ev := List.map_congr_left fun x hx => hv x (by simp; exact .inr (by simpa using hx))
    rw [this, e0]
  case nilCheck x => rw [hv x (by simp)]
  case box T x => rw [hv x (by simp)]
  case load T x => rw [hv x (by simp), aLoad_local (hob x (by simp))]
  case store T x y => rw [hv x (by simp), hv y (by simp), aStore_local (hob x (by simp))]
  case fieldAddr S x f => rw [hv x (by simp)]
  case field T x f => rw [hv x (by simp)]
  case indexAddr T x y => rw [hv x (by simp), hv y (by simp)]
  case index T x y => rw [hv x (by simp), hv y (by simp)]
  case slice T x lo hi mx =>
    have e1 : lo.map ev' = lo.map ev := by cases lo with | none => rfl | some y => simp [hv y (by simp)]
    have e2 : hi.map ev' = hi.map ev := by cases hi with | none => rfl | some y => simp [hv y (by simp)]
    have e3 : mx.map ev' = mx.map ev := by cases mx with | none => rfl | some y => simp [hv y (by simp)]
    rw [hv x (by simp), e1, e2, e3]
  case build t parts => rw [parts_local hv]
  case buildSlice t len parts => rw [parts_local hv]
  case makeSlice t x y => rw [hv x (by simp), hv y (by simp)]
  case convert s d x => rw [hv x (by simp), aConvert_local (hob x (by simp)), hsc]
  case binOp op t x y t' => rw [hv x (by simp), hv y (by simp), hsc]
  case unOp op t x => rw [hv x (by simp), hsc]
  case makeMap t x => cases x with
    | none => rfl
    | some y => rfl
  case lookup t x y c => rw [hv x (by simp), hv y (by simp), aLookup_local (hob x (by simp))]
  case mapUpdate t x y z => rw [hv x (by simp), hv y (by simp), hv z (by simp), aMapUpdate_local (hob x (by simp))]
  case insert t x y z => rw [hv x (by simp), hv y (by simp), hv z (by simp), aMapUpdate_local (hob x (by simp))]
  case call c =>
    obtain ⟨callee, args, ts⟩ := c
    cases callee with
    | value f => exact hsc
    | invoke r m => exact hsc
    | builtin b =>
      have hmem : ∀ y ∈ args, y ∈ Call.operands ⟨.builtin b, args, ts⟩ := fun y hy => by simp [Call.operands]; exact hy
      have e : args.toList.map ev' = args.toList.map ev := List.map_congr_left fun x hx => hv x (hmem x (by simpa using hx))
      simp only [e]
      unfold aBuiltin
      rw [hsc]
      split
      · rename_i nm t hx ht
        obtain ⟨x', xs, h1, h2, h3⟩ := List.map_eq_cons_iff.1 hx
        have hxm : x' ∈ args := by rw [← Array.mem_toList_iff, h1]; exact List.mem_cons_self
        exact aLenM_local (hob x' (hmem _ hxm) nm (by rw [h2]; exact List.mem_cons_self))
      · rfl
      · rename_i x y t t' hx ht
        obtain ⟨x', xs, h1, h2, h3⟩ := List.map_eq_cons_iff.1 hx
        obtain ⟨y', ys, h4, h5, h6⟩ := List.map_eq_cons_iff.1 h3
        have hxm : x' ∈ args := by rw [← Array.mem_toList_iff, h1]; exact List.mem_cons_self
        have hym : y' ∈ args := by rw [← Array.mem_toList_iff, h1, h4]; exact List.mem_cons_of_mem _ List.mem_cons_self
        rw [aAppend_local (by rw [← h2]; exact hob x' (hmem _ hxm)) (by rw [← h5]; exact hob y' (hmem _ hym)), aAppendS_local (by rw [← h2]; exact hob x' (hmem _ hxm))]
      · rfl
      · rfl
      · rfl
  all_goals first | exact hsc | rfl
theorem low0_local {obs obs' : List (Nat × Ob)} {B : List Nat} (h : ∀ n ∈ B, lookO obs' n = lookO obs n) (p : PV) : low0 obs' B p = low0 obs B p := by
  cases p with
  | sl nm sz off len =>
    unfold low0
    dsimp only
    by_cases e : nm ∈ B
    · rw [if_pos e, if_pos e, h nm e]
    · rw [if_neg e, if_neg e]
  | ref nm sz row off =>
    unfold low0
    dsimp only
    by_cases e : nm ∈ B
    · rw [if_pos e, if_pos e, h nm e]
    · rw [if_neg e, if_neg e]
  | _ => rfl
theorem low1_local {obs obs' : List (Nat × Ob)} {B : List Nat} (h : ∀ n ∈ B, lookO obs' n = lookO obs n) (p : PV) : low1 obs' B p = low1 obs B p := by
  cases p with
  | agg cs => exact congrArg PV.agg (List.map_congr_left fun c _ => low0_local h c)
  | clo f cs => exact congrArg (PV.clo f) (List.map_congr_left fun c _ => low0_local h c)
  | bnd f cs => exact congrArg (PV.bnd f) (List.map_congr_left fun c _ => low0_local h c)
  | sl nm sz off len => exact low0_local h (.sl nm sz off len)
  | ref nm sz row off => exact low0_local h (.ref nm sz row off)
  | _ => rfl
theorem lendOk0_local {obs obs' : List (Nat × Ob)} {B : List Nat} (h : ∀ n ∈ B, lookO obs' n = lookO obs n) {p : PV} (hk : lendOk0 obs B p) : lendOk0 obs' B p := by
  cases p with
  | sl nm sz off len => exact fun hn o ho => hk hn o (by rw [← h nm hn]; exact ho)
  | ref nm sz row off => exact fun hn o ho => hk hn o (by rw [← h nm hn]; exact ho)
  | _ => exact trivial
theorem lendOk1_local {obs obs' : List (Nat × Ob)} {B : List Nat} (h : ∀ n ∈ B, lookO obs' n = lookO obs n) {p : PV} (hk : lendOk1 obs B p) : lendOk1 obs' B p := by
  cases p with
  | agg cs => exact fun c hc => lendOk0_local h (hk c hc)
  | clo f cs => exact fun c hc => lendOk0_local h (hk c hc)
  | bnd f cs => exact fun c hc => lendOk0_local h (hk c hc)
  | sl nm sz off len => exact lendOk0_local (p := .sl nm sz off len) h hk
  | ref nm sz row off => exact lendOk0_local (p := .ref nm sz row off) h hk
  | _ => exact trivial
theorem CallFit.local {st st' : St} {xs : List PV} {B : List Nat} {π : List (Nat × Nat)} {args : List PV} {pre : List (Nat × Ob)} {r : PV} {post : List (Nat × Ob)} (hf : CallFit st new xs B π args pre r post)
    (hT : ∀ n ∈ B ++ π.map (·.1), lookO st'.obs n = lookO st.obs n) : CallFit st' new xs B π args pre r post := by
  have hB : ∀ n ∈ B, lookO st'.obs n = lookO st.obs n := fun n hn => hT n (List.mem_append_left _ hn)
  refine ⟨?_, fun x hx => lendOk1_local hB (hf.lend x hx), fun n hn => ?_, hf.apart, fun j ob h => ?_, hf.small, hf.inj, hf.rd, hf.postF⟩
  · rw [← hf.argsF]
    exact List.map_congr_left fun x _ => by rw [low1_local hB]
  · rw [hB n hn]; exact hf.nf n hn
  · obtain ⟨n, o, h1, h2, h3⟩ := hf.preF j ob h
    refine ⟨n, o, h1, ?_, h3⟩
    rw [hT n (List.mem_append_right _ ?_)]
    · exact h2
    · have := (hf.inj n j).1 h1
      unfold fwdN at this
      obtain ⟨y, hy1, hy2⟩ := Option.map_eq_some_iff.1 this
      have h5 := List.find?_some hy1
      exact List.mem_map.2 ⟨y, List.mem_of_find?_eq_some hy1, by simpa using h5⟩
end

/-! ### A region, walked once -/
def callT (P : Program) (g : FuncId) (xs : List PV) (st : St) (K : Tr → Prop) : Prop :=
  ∃ (B : List Nat) (π : List (Nat × Nat)) (args : List PV) (pre : List (Nat × Ob)) (r : PV) (post : List (Nat × Ob)), CallOk P g args pre r post ∧ CallFit st st.new xs B π args pre r post ∧
    uOk (preU π ++ postU π st.new post) (st.new + 8) ∧ K ⟨rn2 (outN π st.new) r, preU π ++ postU π st.new post, B ++ π.map (·.1) ++ (preU π ++ postU π st.new post).map (·.1)⟩
/-- Go on with what an operation has done, and with the names that it has looked at. -/
def runT (r : R) (k : Nat) (T : List Nat) (K : Tr → Prop) : Prop := r.ok ∧ uOk r.u k ∧ K ⟨r.v, r.u, T ++ r.u.map (·.1)⟩
/-- The names that operands have. -/
def touch (regs : List (Nat × PV)) : List Operand → List Nat
  | [] => []
  | y :: r => names0 (evP regs y) ++ touch regs r
def touchS (g : Bool) (regs : List (Nat × PV)) : List Operand → List Nat
  | [] => []
  | y :: r => names0 (evS g regs y) ++ touchS g regs r
theorem touchS_true (regs : List (Nat × PV)) : ∀ l, touchS true regs l = touch regs l
  | [] => rfl
  | y :: r => by rw [touchS, touch, evS_true, touchS_true regs r]
theorem mem_touch {regs : List (Nat × PV)} {y : Operand} {n : Nat} : ∀ {l : List Operand}, y ∈ l → n ∈ names0 (evP regs y) → n ∈ touch regs l
  | z :: l, h, hn => by
    rcases List.mem_cons.1 h with e | e
    · subst e; exact List.mem_append_left _ hn
    · exact List.mem_append_right _ (mem_touch e hn)
def stepT (P : Program) (o : Oper) (st : St) (K : Tr → Prop) : Prop :=
  match o.op with
  | .call ⟨.value f, cargs, _⟩ => match evP st.regs f with
    | .clo g caps => callT P g (cargs.toList.map (evP st.regs) ++ caps) st K
    | .bnd g first => callT P g (first ++ cargs.toList.map (evP st.regs)) st K
    | _ => False
  | _ => runT (act P o (evP st.regs) (lookO st.obs) st.new) (st.new + 8) (touch st.regs o.op.operands.toList) K
/-- A guarded operation that only looks. -/
def softT (g : Option Bool) (r : Bool → R) (T : Bool → List Nat) (Z : Tr → Prop) : Prop := match g with
  | some g => (g = true → (r g).ok ∧ (r g).u = []) ∧ Z ⟨.cnd g (r g).v, [], T g⟩
  | none => False
def execT (P : Program) (all : List Oper) : List Oper → St → List Tr → (St → List Tr → Prop) → Prop
  | [], st, tr, K => K st tr
  | o :: rest, st, tr, K => dstIn o.dst st.n ∧ match o.guard with
    | none => stepT P o st fun x => execT P all rest (nextSt o st x.v x.u) (x :: tr) K
    | some (j, want) => if softOp o.op = true then softT (guardE (guardV all st j) want) (fun g => act P o (evS g st.regs) (lookO st.obs) st.new) (fun g => touchS g st.regs o.op.operands.toList) fun x => execT P all rest (nextSt o st x.v x.u) (x :: tr) K else
      guardK (strip (guardV all st j)) want (stepT P o st fun x => execT P all rest (nextSt o st x.v x.u) (x :: tr) K) (execT P all rest (nextSt o st (.val undef) []) (⟨.val undef, [], []⟩ :: tr) K)
section
variable {P : Program} {o : Oper} {st : St}
theorem evP_local {st' : St} {ops : Array Oper} (h : ∀ t ∈ o.looksAt ops, look st'.regs t = look st.regs t) : ∀ y ∈ o.op.operands, evP st'.regs y = evP st.regs y := fun y hy => by
  cases y with
  | tmp t => exact congrArg strip <| h t (List.mem_append_left _ (List.mem_filterMap.2 ⟨.tmp t, by simpa using hy, rfl⟩))
  | _ => rfl
theorem stepT_local {K : Tr → Prop} (h : stepT P o st K) : ∃ x, K x ∧ ∀ (st' : St) (E : En) (C : Cx) (a : Act), (∀ y ∈ o.op.operands, evP st'.regs y = evP st.regs y) → (∀ m ∈ x.T, lookO st'.obs m = lookO st.obs m) →
    Rel E C st' a → (∀ k, k < 8 → C.ρ (st.new + k) = none ∧ lookO st'.obs (st.new + k) = none) → StepOk P E C st' a o st.new x.v x.u := by
  unfold stepT at h
  split at h
  · rename_i f cargs ts ho
    split at h
    · rename_i g caps hfv
      obtain ⟨B, π, args, pre, r, post, h1, h2, h3, h4⟩ := h
      refine ⟨_, h4, fun st' E C a hv hT hr hf => ?_⟩
      simp only [ho, Op.operands, Call.operands] at hv
      have e1 : evP st'.regs f = .clo g caps := by rw [hv f (by simp), hfv]
      have e2 : cargs.toList.map (evP st'.regs) = cargs.toList.map (evP st.regs) := List.map_congr_left fun x hx => hv x (by simp; exact .inr (by simpa using hx))
      obtain ⟨vs, k1, k2⟩ := call_run (P := P) (xs := cargs.toList.map (evP st.regs) ++ caps) hr ho h1.1 (.inl ⟨caps, e1, by rw [e2]⟩)
      exact call_ok (B := B) hr hf (fun c => by rw [ho]; intro e; cases e) k1 k2 (h2.local (fun n hn => hT n (List.mem_append_left _ hn))) h1
    · rename_i g first hfv
      obtain ⟨B, π, args, pre, r, post, h1, h2, h3, h4⟩ := h
      refine ⟨_, h4, fun st' E C a hv hT hr hf => ?_⟩
      simp only [ho, Op.operands, Call.operands] at hv
      have e1 : evP st'.regs f = .bnd g first := by rw [hv f (by simp), hfv]
      have e2 : cargs.toList.map (evP st'.regs) = cargs.toList.map (evP st.regs) := List.map_congr_left fun x hx => hv x (by simp; exact .inr (by simpa using hx))
      obtain ⟨vs, k1, k2⟩ := call_run (P := P) (xs := first ++ cargs.toList.map (evP st.regs)) hr ho h1.1 (.inr ⟨first, e1, by rw [e2]⟩)
      exact call_ok (B := B) hr hf (fun c => by rw [ho]; intro e; cases e) k1 k2 (h2.local (fun n hn => hT n (List.mem_append_left _ hn))) h1
    · exact h.elim
  · obtain ⟨h1, h2, h3⟩ := h
    refine ⟨_, h3, fun st' E C a hv hT hr hf => ?_⟩
    have e := act_local (P := P) (o := o) (new := st.new) (ev := evP st.regs) (ev' := evP st'.regs) (ob := lookO st.obs) (ob' := lookO st'.obs) hv (fun y hy n hn => hT n (List.mem_append_left _ (mem_touch (by simpa using hy) hn))) h1
    have := act_ok (P := P) (o := o) hr (hf 0 (by omega)).1 (hf 0 (by omega)).2 (by simp only [Nat.add_zero]; rw [e]; exact h1)
    simp only [Nat.add_zero] at this
    rw [e] at this
    exact this
theorem opOk_step {ops : Array Oper} {i : Nat} {x : Tr} (hi : ops[i]? = some o) (hd : dstIn o.dst st.n) (hw : ∀ (st' : St) (E : En) (C : Cx) (a : Act), (∀ t ∈ o.looksAt ops, look st'.regs t = look st.regs t) → Rel E C st' a → Region.wanted o (yielded ops a.tmps) = true)
    (h : ∀ (st' : St) (E : En) (C : Cx) (a : Act), (∀ y ∈ o.op.operands, evP st'.regs y = evP st.regs y) → (∀ m ∈ x.T, lookO st'.obs m = lookO st.obs m) →
      Rel E C st' a → (∀ k, k < 8 → C.ρ (st.new + k) = none ∧ lookO st'.obs (st.new + k) = none) → StepOk P E C st' a o st.new x.v x.u) : OpOk P ops i o st x := by
  intro st' E r n C a Q K hn hnew hlook hT hr hf hK
  unfold wpOpIn
  simp only [hi]
  rw [if_pos (hw st' E C a hlook hr)]
  refine h st' E C a (evP_local hlook) hT hr hf r n K Q (fun v C' hv hr' hle hρ => hK _ _ ?_ hρ)
  exact hr'.nextSt hv (by rw [hn]; exact hd)
theorem opOk_skip {ops : Array Oper} {i : Nat} (hi : ops[i]? = some o) (hd : dstIn o.dst st.n) (hw : ∀ (st' : St) (E : En) (C : Cx) (a : Act), (∀ t ∈ o.looksAt ops, look st'.regs t = look st.regs t) → Rel E C st' a → Region.wanted o (yielded ops a.tmps) = false) :
    OpOk P ops i o st ⟨.val undef, [], []⟩ := by
  intro st' E r n C a Q K hn hnew hlook hT hr hf hK
  unfold wpOpIn
  simp only [hi]
  rw [if_neg (by rw [hw st' E C a hlook hr]; simp)]
  refine ⟨fun _ _ => trivial, hK _ _ ?_ (fun _ _ _ => rfl)⟩
  have hr0 : Rel E C { st' with obs := applyU st'.obs [] } a := hr
  exact hr0.nextSt (.val _) (by rw [hn]; exact hd)
theorem guardV_local {ops : Array Oper} {j : Nat} {want : Bool} {st' : St} (hg : o.guard = some (j, want)) (h : ∀ t ∈ o.looksAt ops, look st'.regs t = look st.regs t) : guardV ops.toList st' j = guardV ops.toList st j := by
  unfold guardV
  cases hd : (ops.toList[j]?).bind (·.dst) with
  | none => rfl
  | some d =>
    refine h d (List.mem_append_right _ ?_)
    rw [hg]
    rw [Array.getElem?_toList] at hd
    simp [hd]
theorem guard_local {ops : Array Oper} {j : Nat} {want b : Bool} (hg : o.guard = some (j, want)) (h : strip (guardV ops.toList st j) = .val (.bool b)) : ∀ (st' : St) (E : En) (C : Cx) (a : Act), (∀ t ∈ o.looksAt ops, look st'.regs t = look st.regs t) → Rel E C st' a →
    Region.wanted o (yielded ops a.tmps) = (b == want) := by
  intro st' E C a hlook hr
  have hy := strip_bool hr ops j (by rw [guardV_local hg hlook]; exact h)
  simp [Region.wanted, hg, hy]
theorem guard_un {ops : Array Oper} {j : Nat} {want : Bool} {xs : Array Value} (hg : o.guard = some (j, want)) (h : strip (guardV ops.toList st j) = .val (.tuple xs)) : ∀ (st' : St) (E : En) (C : Cx) (a : Act), (∀ t ∈ o.looksAt ops, look st'.regs t = look st.regs t) → Rel E C st' a →
    Region.wanted o (yielded ops a.tmps) = false := by
  intro st' E C a hlook hr
  have hy := strip_tup hr ops j (by rw [guardV_local hg hlook]; exact h)
  simp [Region.wanted, hg, hy]
/-- A guarded operation that only looks, in whatever order. -/
theorem opOk_soft {ops : Array Oper} {i j : Nat} {want g : Bool} (hi : ops[i]? = some o) (hd : dstIn o.dst st.n) (hg : o.guard = some (j, want)) (hge : guardE (guardV ops.toList st j) want = some g) (hs : softOp o.op = true)
    (h : g = true → (act P o (evS g st.regs) (lookO st.obs) st.new).ok ∧ (act P o (evS g st.regs) (lookO st.obs) st.new).u = []) :
    OpOk P ops i o st ⟨.cnd g (act P o (evS g st.regs) (lookO st.obs) st.new).v, [], touchS g st.regs o.op.operands.toList⟩ := by
  intro st' E r n C a Q K hn hnew hlook hT hr hf hK
  unfold wpOpIn
  simp only [hi]
  have hw := wanted_of hr ops hg (by rw [guardV_local hg hlook]; exact hge)
  rw [hw]
  have hr0 : ∀ {C' : Cx}, Rel E C' st' a → Rel E C' { st' with obs := applyU st'.obs [] } a := fun h => h
  cases g with
  | true =>
    rw [if_pos rfl]
    simp only [evS_true, touchS_true] at h hT ⊢
    obtain ⟨h1, h2⟩ := h trivial
    have hv := evP_local (st := st) (st' := st') hlook
    have e := act_local (P := P) (o := o) (new := st.new) (ev := evP st.regs) (ev' := evP st'.regs) (ob := lookO st.obs) (ob' := lookO st'.obs) hv (fun y hy n hn => hT n (mem_touch (by simpa using hy) hn)) h1
    refine soft_step (st := st) (st' := st') hn hr (by rw [hnew]; have := hf 0 (by omega); exact this) hd hs (R0 := act P o (evP st.regs) (lookO st.obs) st.new) (by rw [hnew, e]) h1 h2 (fun x C' hx hr' hρ hle => ?_)
    refine hK _ _ ?_ (by rw [hnew] at hρ; exact hρ)
    simp only [evS_true]
    exact (hr0 hr').nextSt (.cndT hx) (by rw [hn]; exact hd)
  | false =>
    rw [if_neg (by simp)]
    refine ⟨fun _ _ => trivial, hK _ _ ?_ (fun _ _ _ => rfl)⟩
    exact (hr0 hr).nextSt .cndF (by rw [hn]; exact hd)
theorem execT_sound {ops : Array Oper} {K : St → List Tr → Prop} : ∀ (m k : Nat) (st : St) (tr : List Tr), k + m = ops.size → execT P ops.toList (ops.toList.drop k) st tr K →
    ∃ l : List (Oper × Tr), l.map (·.1) = ops.toList.drop k ∧ (∀ i o x, l[i]? = some (o, x) → OpOk P ops (k + i) o (stT l i st) x) ∧ K (stT l l.length st) ((l.map (·.2)).reverse ++ tr)
  | 0, k, st, tr, hk, h => by
    rw [List.drop_eq_nil_of_le (by rw [Array.length_toList (xs := ops)]; omega)] at h ⊢
    exact ⟨[], rfl, fun i o x hx => by simp at hx, by simpa [stT, execT] using h⟩
  | m + 1, k, st, tr, hk, h => by
    have hlt : k < ops.size := by omega
    have hdrop : ops.toList.drop k = ops[k] :: ops.toList.drop (k + 1) := by
      rw [List.drop_eq_getElem_cons (by rw [Array.length_toList (xs := ops)]; exact hlt)]
      congr 1
    have hok : ops[k]? = some ops[k] := Array.getElem?_eq_getElem hlt
    rw [hdrop] at h ⊢
    obtain ⟨hd, h⟩ := h
    have fin : ∀ x, OpOk P ops k ops[k] st x → execT P ops.toList (ops.toList.drop (k + 1)) (nextSt ops[k] st x.v x.u) (x :: tr) K →
        ∃ l : List (Oper × Tr), l.map (·.1) = ops[k] :: ops.toList.drop (k + 1) ∧ (∀ i o x, l[i]? = some (o, x) → OpOk P ops (k + i) o (stT l i st) x) ∧ K (stT l l.length st) ((l.map (·.2)).reverse ++ tr) := by
      intro x hx h
      obtain ⟨l, h1, h2, h3⟩ := execT_sound m (k + 1) _ _ (by omega) h
      refine ⟨(ops[k], x) :: l, by simp [h1], fun i o y hy => ?_, ?_⟩
      · cases i with
        | zero =>
          simp only [List.getElem?_cons_zero, Option.some.injEq, Prod.mk.injEq] at hy
          rw [← hy.1, ← hy.2]; exact hx
        | succ i =>
          have := h2 i o y (by simpa using hy)
          rwa [show k + 1 + i = k + (i + 1) by omega] at this
      · rw [List.length_cons, stT]
        simpa using h3
    have stepd : (∀ (st' : St) (E : En) (C : Cx) (a : Act), (∀ t ∈ ops[k].looksAt ops, look st'.regs t = look st.regs t) → Rel E C st' a → Region.wanted ops[k] (yielded ops a.tmps) = true) →
        (stepT P ops[k] st fun x => execT P ops.toList (ops.toList.drop (k + 1)) (nextSt ops[k] st x.v x.u) (x :: tr) K) → ∃ l : List (Oper × Tr), l.map (·.1) = ops[k] :: ops.toList.drop (k + 1) ∧ (∀ i o x, l[i]? = some (o, x) → OpOk P ops (k + i) o (stT l i st) x) ∧ K (stT l l.length st) ((l.map (·.2)).reverse ++ tr) := fun hw hs => by
      obtain ⟨x, hx1, hx2⟩ := stepT_local hs
      exact fin x (opOk_step hok hd hw hx2) hx1
    have skipd : (∀ (st' : St) (E : En) (C : Cx) (a : Act), (∀ t ∈ ops[k].looksAt ops, look st'.regs t = look st.regs t) → Rel E C st' a → Region.wanted ops[k] (yielded ops a.tmps) = false) →
        execT P ops.toList (ops.toList.drop (k + 1)) (nextSt ops[k] st (.val undef) []) (⟨.val undef, [], []⟩ :: tr) K → ∃ l : List (Oper × Tr), l.map (·.1) = ops[k] :: ops.toList.drop (k + 1) ∧ (∀ i o x, l[i]? = some (o, x) → OpOk P ops (k + i) o (stT l i st) x) ∧ K (stT l l.length st) ((l.map (·.2)).reverse ++ tr) := fun hw hs => fin ⟨.val undef, [], []⟩ (opOk_skip hok hd hw) hs
    cases hg : ops[k].guard with
    | none =>
      rw [hg] at h
      exact stepd (fun st' E C a _ _ => wanted_none ops _ _ hg) h
    | some jw =>
      obtain ⟨j, want⟩ := jw
      rw [hg] at h
      simp only [] at h
      by_cases hs : softOp ops[k].op = true
      · rw [if_pos hs] at h
        unfold softT at h
        split at h
        · rename_i g hge
          exact fin _ (opOk_soft hok hd hg hge hs h.1) h.2
        · exact h.elim
      rw [if_neg hs] at h
      simp only [guardK] at h
      split at h
      · rename_i b hb
        have hw := guard_local (o := ops[k]) hg hb
        by_cases e : b = want
        · exact stepd (fun st' E C a h1 h2 => by rw [hw st' E C a h1 h2, e]; simp) (h.1 e)
        · exact skipd (fun st' E C a h1 h2 => by rw [hw st' E C a h1 h2]; simpa using e) (h.2 e)
      · rename_i xs hb
        exact skipd (fun st' E C a h1 h2 => guard_un (o := ops[k]) hg hb st' E C a h1 h2) h
      · exact h.elim
/-- A region whose order is drawn: walked once, in the text's order. -/
theorem draw_sound {id : Nat} {ops : Array Oper} {Q : Exit → St → Prop} (hm : P.follows .mixedOrders = true) (h : execT P ops.toList ops.toList st [] fun st' tr => drawOk ops st.new tr.reverse = true ∧ Q .normal st') {J : Jd} : WPg J P (.region id ops true) st Q := by
  intro E r n C a _ _ hr hf
  obtain ⟨l, h1, h2, h3, h4⟩ := execT_sound (P := P) (ops := ops) ops.size 0 st [] (by omega) (by simpa using h)
  simp only [List.drop_zero] at h1
  simp only [List.append_nil, List.reverse_reverse] at h3
  have hzip : ops.toList.zip (l.map (·.2)) = l := by
    rw [← h1, List.zip_map']
    simp
  unfold drawOk at h3
  rw [hzip] at h3
  have hps : ops.toList.map predsOf = l.map fun y => predsOf y.1 := by rw [← h1, List.map_map]; rfl
  rw [hps, Bool.and_eq_true] at h3
  refine wpIn_region_any hm ?_
  have hr1 : Rel E ⟨{ C.W with drawn := C.W.drawn + 1 }, C.ρ, C.S⟩ st a := by
    have hle : C.le ⟨{ C.W with drawn := C.W.drawn + 1 }, C.ρ, C.S⟩ := .mk' (fun _ h => h) (fun _ _ => rfl) (fun _ _ h => h) (Shp.refl _)
    refine ⟨hr.size, fun t => (hr.regs t).mono hle, fun nm ob h => ?_, hr.inj, hr.own, hr.sub, ⟨hr.fr.os, hr.fr.tape, hr.fr.output, Nat.le_trans hr.fr.drawn (Nat.le_succ _), hr.fr.size, hr.fr.block, hr.fr.shp⟩, hr.old, hr.up, hr.keep, hr.defs⟩
    exact (hr.obs nm ob h).frame hle rfl (fun b h1 h2 _ => ⟨.inl rfl, h2⟩)
  have hbase : st.new = st.new := rfl
  have D0 : ∀ j, (fun _ : Nat => false) j = (Array.replicate ops.size false).getD j false := fun j => by
    by_cases hj : j < ops.size <;> simp [hj]
  have e0 := stM_none (fun _ => false) l 0 st (fun _ _ => rfl)
  refine draw_any (C := ⟨{ C.W with drawn := C.W.drawn + 1 }, C.ρ, C.S⟩) (st0 := st) h1 rfl h3.2 (fun i o x hx => by have := h2 i o x hx; rwa [Nat.zero_add] at this) (fun C' a' hr' hf' => ⟨C', _, rfl, hr', ?_, h4⟩) ops.size (Array.replicate ops.size false) (fun _ => false) a D0 (by simp) (fun i hi => by cases hi)
    (hr1.congr (stM_n _ _ _ _) (fun t => by rw [e0.1]) (fun m => by rw [e0.2])) (fun m hm' _ => ⟨(hf m (by omega)).1, by rw [e0.2]; exact (hf m (by omega)).2⟩) (by simp)
  intro m hm'
  refine hf' m ?_
  have : (stT l l.length st).new = st.new + 8 * l.length := by
    rw [← stM_all (fun _ => true) l 0 st (fun _ _ => rfl), stM_new]
  omega
end
end Go.Proofs.Ytipolblhiljoiaa.Sy

namespace Go.Proofs.Ytipolblhiljoiaa.Sy
open Go Go.RowKit
set_option linter.unusedVariables false
set_option linter.unusedSimpArgs false

section
variable {P : Program} {J : Jd}
/-- What st tells, st' tells too. -/
def Wk (b : Nat) (st st' : St) : Prop := ∀ (E : En) (C : Cx) (a : Act), Rel E C st a → (∀ n k, E.ρ0 n = some k → n < b) → Free C st → ∃ C', C'.W = C.W ∧ Rel E C' st' a ∧ Free C' st'
theorem WPg.mono {c : Code} {st : St} {Q Q' : Exit → St → Prop} (h : WPg J P c st Q) (hq : ∀ e s, Q e s → Q' e s) : WPg J P c st Q' := fun E r n C a ho hE hr hf =>
  wpIn_mono (h E r n C a ho hE hr hf) (fun e a' W' ⟨C', st', h1, h2, h3, h4⟩ => ⟨C', st', h1, h2, h3, hq _ _ h4⟩)
theorem WPg.weak {c : Code} {st st' : St} {Q : Exit → St → Prop} (hw : Wk J.base st st') (h : WPg J P c st' Q) : WPg J P c st Q := fun E r n C a ho hE hr hf => by
  obtain ⟨C', h1, h2, h3⟩ := hw E C a hr hE hf
  rw [← h1]; exact h E r n C' a ho hE h2 h3
theorem Wk.refl {b : Nat} (st : St) : Wk b st st := fun E C a hr _ hf => ⟨C, rfl, hr, hf⟩
theorem Wk.trans {b : Nat} {s t u : St} (h : Wk b s t) (k : Wk b t u) : Wk b s u := fun E C a hr h2 hf => by
  obtain ⟨C', g1, g2, g3⟩ := h E C a hr h2 hf
  obtain ⟨C'', g4, g5, g6⟩ := k E C' a g2 h2 g3
  exact ⟨C'', g4.trans g1, g5, g6⟩

/-- A region whose order is drawn. -/
def drawK (P : Program) (ops : Array Oper) (st : St) (Q : Exit → St → Prop) : Prop := P.follows .mixedOrders = true ∧ execT P ops.toList ops.toList st [] fun st' tr => drawOk ops st.new tr.reverse = true ∧ Q .normal st'
def exec (J : Jd) (P : Program) : Code → St → (Exit → St → Prop) → Prop
  | .skip, st, Q => Q .normal st
  | .region id ops draw, st, Q => if draw = true then drawK P ops st Q else execOps P ops.toList ops.toList st (fun ch => Q (.panic ch)) (Q .normal)
  | .seq x y, st, Q => exec J P x st fun e s => match e with
    | .normal => exec J P y s Q
    | e => Q e s
  | .cond c x y, st, Q => condK (evP st.regs c) (exec J P x st Q) (exec J P y st Q)
  | .block id b, st, Q => exec J P b st fun e s => match e with
    | .exit i => if i = id then Q .normal s else Q (.exit i) s
    | e => Q e s
  | .exit id, st, Q => Q (.exit id) st
  | .ret, st, Q => Q .ret st
  | c, st, Q => WPg J P c st Q
theorem region_sound {id : Nat} {ops : Array Oper} {st : St} {Q : Exit → St → Prop} (h : execOps P ops.toList ops.toList st (fun ch => Q (.panic ch)) (Q .normal)) : WPg J P (.region id ops false) st Q := by
  intro E r n C a ho hE hr hf
  refine wpIn_region ?_
  rw [List.range_eq_range']
  exact ops_sound (P := P) (Qp := fun ch => Q (.panic ch)) (K := Q .normal) ops (fun st' C' a' hk hr' hf' => ⟨C', st', rfl, hr', hf', hk⟩) (fun ch st' C' a' hk hr' hf' => ⟨C', st', rfl, hr', hf', hk⟩) ops.size 0 st C a (by omega) (by simpa using h) hr hf
theorem exec_sound : ∀ (c : Code) (st : St) (Q : Exit → St → Prop), exec J P c st Q → WPg J P c st Q
  | .skip, st, Q, h => fun E r n C a ho hE hr hf => wpIn_skip ⟨C, st, rfl, hr, hf, h⟩
  | .region id ops draw, st, Q, h => by
    cases draw with
    | true =>
      have h : drawK P ops st Q := by simpa [exec] using h
      exact draw_sound h.1 h.2
    | false => exact region_sound (by simpa [exec] using h)
  | .seq x y, st, Q, h => fun E r n C a ho hE hr hf => by
    refine wpIn_seq (wpIn_mono (exec_sound x st _ h E r n C a ho hE hr hf) ?_)
    rintro e a' W' ⟨C', st', rfl, h2, h3, h4⟩
    cases e with
    | normal => exact exec_sound y st' Q h4 E r n C' a' ho hE h2 h3
    | _ => exact ⟨C', st', rfl, h2, h3, h4⟩
  | .cond c x y, st, Q, h => fun E r n C a ho hE hr hf => by
    simp only [exec, condK] at h
    split at h
    · rename_i t ht
      have hc := hr.eval c
      rw [ht] at hc
      have hc' : a.eval c = .bool t := by generalize a.eval c = v at hc; cases hc; rfl
      refine wpIn_cond hc' ?_
      cases t with
      | true => exact exec_sound x st Q (h.1 rfl) E r n C a ho hE hr hf
      | false => exact exec_sound y st Q (h.2 rfl) E r n C a ho hE hr hf
    · rename_i ht
      have hc := hr.eval c
      rw [ht] at hc
      obtain ⟨t, hc'⟩ : ∃ t, a.eval c = .bool t := by generalize a.eval c = v at hc; cases hc; exact ⟨_, rfl⟩
      refine wpIn_cond hc' ?_
      cases t with
      | true => exact exec_sound x st Q h.1 E r n C a ho hE hr hf
      | false => exact exec_sound y st Q h.2 E r n C a ho hE hr hf
    · exact h.elim
  | .block id b, st, Q, h => fun E r n C a ho hE hr hf => by
    refine wpIn_block (wpIn_mono (exec_sound b st _ h E r n C a ho hE hr hf) ?_)
    rintro e a' W' ⟨C', st', rfl, h2, h3, h4⟩
    cases e with
    | exit i =>
      simp only [Exit.inBlock]
      simp only [] at h4
      split
      · rename_i e; rw [if_pos e] at h4; exact ⟨C', st', rfl, h2, h3, h4⟩
      · rename_i e; rw [if_neg e] at h4; exact ⟨C', st', rfl, h2, h3, h4⟩
    | _ => exact ⟨C', st', rfl, h2, h3, h4⟩
  | .exit id, st, Q, h => fun E r n C a ho hE hr hf => wpIn_exit ⟨C, st, rfl, hr, hf, h⟩
  | .ret, st, Q, h => fun E r n C a ho hE hr hf => wpIn_ret ⟨C, st, rfl, hr, hf, h⟩
  | .loop b, st, Q, h => h
  | .rangeFunc g ps x b, st, Q, h => h
  | .scope b, st, Q, h => h
  | .label l, st, Q, h => h
  | .goto l, st, Q, h => h
  | .refuse w, st, Q, h => h

/-! ### Loops -/
theorem WPg.loop {b : Code} {st : St} {Q : Exit → St → Prop} (Inv : Nat → St → Prop) (n0 : Nat) (h0 : Inv n0 st)
    (step : ∀ m s, Inv m s → WPg J P b s fun e s' => match e with
      | .normal => ∃ k, k < m ∧ Inv k s'
      | e => Q e s') : WPg J P (.loop b) st Q := by
  intro E r n C a ho hE hr hf
  let L : Nat → Act → World → Prop := fun m a W => ∃ C s, C.W = W ∧ Rel E C s a ∧ Free C s ∧ Inv m s
  let I : Act → World → Prop := fun a W => ∃ m, L m a W
  let μ : Act → World → Nat := fun a W => Classical.epsilon (fun n => L n a W ∧ ∀ k, L k a W → n ≤ k)
  have hμ : ∀ a W, I a W → L (μ a W) a W ∧ ∀ k, L k a W → μ a W ≤ k := fun a W ⟨m, hm⟩ =>
    Classical.epsilon_spec (p := fun n => L n a W ∧ ∀ k, L k a W → n ≤ k) (exists_least (fun n => L n a W) m hm)
  refine wpIn_loop I μ ⟨n0, C, st, rfl, hr, hf, h0⟩ ?_
  intro a W hI
  obtain ⟨C1, s1, rfl, h1, h2, h3⟩ := (hμ a W hI).1
  refine wpIn_mono (step _ s1 h3 E r n C1 a ho hE h1 h2) ?_
  rintro e a' W' ⟨C', s', rfl, g1, g2, g3⟩
  cases e with
  | normal =>
    obtain ⟨k, hk, hinv⟩ := g3
    have hI' : I a' C'.W := ⟨k, C', s', rfl, g1, g2, hinv⟩
    refine ⟨hI', ?_⟩
    have : μ a' C'.W ≤ k := (hμ a' C'.W hI').2 k ⟨C', s', rfl, g1, g2, hinv⟩
    omega
  | _ => exact ⟨C', s', rfl, g1, g2, g3⟩

/-! ### Loops over functions -/
/-- What is left when the function that was ranged over has ended. -/
def rangeQ (nm n : Nat) (tm : Array Value) (Q : Exit → St → Prop) (s : St) : Prop := ∃ ob r, lookO s.obs nm = some ob ∧ ob.k = .loop r ∧ r.tm = tm ∧ r.n = n ∧ r.st ≠ .busy ∧ match r.pend with
  | none => Q .normal ⟨n, r.regs, dropO s.obs nm, s.new⟩
  | some .ret => Q .ret ⟨n, r.regs, dropO s.obs nm, s.new⟩
  | some (.exit i) => Q (.exit i) ⟨n, r.regs, dropO s.obs nm, s.new⟩
  | _ => False
theorem WPg.range (hJ : ∀ r, J.ok r → r = none) {g : Operand} {ps : Array Tmp} {asg body : Code} {st : St} {Q : Exit → St → Prop} {f : FuncId} {caps : List PV} {fn : Func} {c : Code} (hg : evP st.regs g = .clo f caps)
    (hfn : P.funcs[f]? = some fn) (hb : fn.body = some c) (hent : entersB P f = true) (hlen : caps.length + 1 ≤ fn.ntmps) (hres : fn.results = #[])
    (h : ∀ tm fid dfs, WPg (.fn (st.new + 8)) P c ⟨fn.ntmps, parRegs 0 (.yld st.new :: caps), (st.new, ⟨0, 0, [], .loop ⟨st.n, st.regs, tm, fid, ps, asg, body, dfs, .ready, none⟩⟩) :: st.obs, st.new + 8⟩ fun e s => match e with
      | .normal => rangeQ st.new st.n tm Q s
      | .ret => rangeQ st.new st.n tm Q s
      | _ => False) : WPg J P (.rangeFunc g ps asg body) st Q := by
  intro E r n C a ho hE hr hf
  obtain rfl := hJ r ho
  refine wpIn_rangeFunc ?_
  intro fid hfid
  have hgv := hr.eval g
  rw [hg] at hgv
  obtain ⟨capsV, hge, hcaps⟩ : ∃ capsV : List Value, a.eval g = .func (.func f) #[] capsV.toArray ∧ ReL C caps capsV := by
    generalize a.eval g = fv at hgv
    cases hgv with
    | clo hl hh => exact ⟨_, rfl, hl, hh⟩
  -- the block of the deferred calls, and its mark
  obtain ⟨D, hD⟩ : ∃ D, D = C.W.heap.size := ⟨_, rfl⟩
  obtain ⟨Cd, hCd⟩ : ∃ Cd : Cx, Cd = ⟨C.W.alloc (.deferred (some [])), C.ρ, C.S⟩ := ⟨_, rfl⟩
  have ed1 : Cd.W = C.W.alloc (.deferred (some [])) := by rw [hCd]
  have ed2 : Cd.ρ = C.ρ := by rw [hCd]
  have ed3 : Cd.S = C.S := by rw [hCd]
  have hfrd : Fr (fun _ => False) C.W Cd.W := by rw [ed1]; exact fr_alloc C.W _
  have hled : C.le Cd := .mk' (fun b h => by rw [ed3]; exact h) (fun b hb => hfrd.block b (hr.sub b hb) (fun h => h)) (fun n b h => by rw [ed2]; exact h) hfrd.shp
  have hr1 := hr.step hled (fun b h => .inl (by rw [← ed3]; exact h)) (fun b h => by rw [ed3]; exact h) (fun _ _ _ => by rw [ed2]) hfrd
  obtain ⟨a1, ha1⟩ : ∃ a1 : Act, a1 = { a with defers := [{ target := .collected D, args := #[] }] ++ a.defers } := ⟨_, rfl⟩
  have hr1' : Rel E Cd st a1 := by
    refine ⟨by rw [ha1]; exact hr1.size, by rw [ha1]; exact hr1.regs, hr1.obs, hr1.inj, hr1.own, hr1.sub, hr1.fr, hr1.old, hr1.up, hr1.keep, ?_⟩
    obtain ⟨Ds, d1, d2, d3⟩ := hr1.defs
    obtain ⟨Ds0, d4, d5, d6⟩ := hr.defs
    refine ⟨D :: Ds0, by rw [ha1]; simp [d4], List.nodup_cons.2 ⟨fun hm => ?_, d5⟩, fun D' hD' => ?_⟩
    · have := (Array.getElem?_eq_some_iff.1 (d6 D hm).2).1; omega
    · rcases List.mem_cons.1 hD' with e | e
      · rw [e, hD]
        exact ⟨hr.fr.size, by rw [ed1]; exact heap_alloc_new C.W _⟩
      · exact ⟨(d6 D' e).1, by rw [ed1]; exact (heap_alloc_old C.W _ (Array.getElem?_eq_some_iff.1 (d6 D' e).2).1).trans (d6 D' e).2⟩
  -- the record
  obtain ⟨rec, hrec⟩ : ∃ rec : RecI, rec = ⟨st.n, st.regs, a.tmps, fid, ps, asg, body, D, .ready, none⟩ := ⟨_, rfl⟩
  have hn0 : Cd.ρ st.new = none := by rw [ed2]; exact (hf _ (Nat.le_refl _)).1
  have hno0 := (hf _ (Nat.le_refl _)).2
  have hle2 := Cx.le_push (o := .loop rec.loop) hr1'.sub hn0
  have hr2 := hr1'.pushO (ob := ⟨0, 0, [], .loop rec⟩) (o := .loop rec.loop) hn0 hno0 (by
    refine ⟨rfl, by rw [hrec]; exact hr.size, ?_, Cd.W.heap.size, by simp [Cx.push], fun hs => ?_, heap_alloc_new Cd.W _⟩
    · have e1 : rec.regs = st.regs := by rw [hrec]
      have e2 : rec.tm = a.tmps := by rw [hrec]
      intro t
      rw [e1, e2]
      exact (hr1.regs t).mono hle2
    · have := hr1'.sub _ hs; omega)
  obtain ⟨C2, hC2⟩ : ∃ C2, C2 = Cd.push st.new (.loop rec.loop) := ⟨_, rfl⟩
  rw [← hC2] at hr2 hle2
  have e2W : C2.W = (C.W.alloc (.deferred (some []))).alloc (.loop rec.loop) := by rw [hC2]; show Cd.W.alloc _ = _; rw [ed1]
  have e2ρ : C2.ρ st.new = some (D + 1) := by rw [hC2]; simp [Cx.push, ed1, hD]
  have hdrop : dropO st.obs st.new = st.obs := by
    have : ∀ l : List (Nat × Ob), lookO l st.new = none → dropO l st.new = l := by
      intro l
      induction l with
      | nil => intro _; rfl
      | cons x l ih =>
        obtain ⟨k, v⟩ := x
        intro h
        rw [lookO] at h
        by_cases e : k = st.new
        · rw [if_pos e] at h; cases h
        · rw [if_neg e] at h
          rw [dropO, if_neg e, ih h]
    exact this _ hno0
  obtain ⟨st2, hst2⟩ : ∃ st2 : St, st2 = ⟨st.n, st.regs, (st.new, ⟨0, 0, [], .loop rec⟩) :: st.obs, st.new + 8⟩ := ⟨_, rfl⟩
  have hr2' : Rel E C2 st2 a1 := by
    have := hr2.new (st.new + 8)
    simp only [applyU, hdrop] at this
    rw [hst2]; exact this
  have hf2 : Free C2 st2 := by
    rw [hst2]
    intro k hk
    have hk' : st.new + 8 ≤ k := hk
    have h := hf k (by omega)
    refine ⟨?_, ?_⟩
    · rw [hC2]
      show (if k = st.new then _ else Cd.ρ k) = none
      rw [if_neg (by omega), ed2]; exact h.1
    · show lookO ((st.new, _) :: st.obs) k = none
      rw [lookO, if_neg (by omega)]; exact h.2
  have henter : (Instr.enterLoop fid a.tmps ps asg body (Fw none).round).run P C.W = .ok (D + 1, [{ target := .collected D, args := #[] }]) C2.W := by
    rw [e2W, hD, hrec, hD]
    exact run_enterLoop_outer (P := P) (w := C.W) fid a.tmps ps asg body
  have hargs : ReL C2 (.yld st.new :: caps) (.func (.yield (D + 1)) #[] #[] :: capsV) := ReL.cons (.yld e2ρ) (hcaps.mono (hled.trans hle2))
  refine ⟨D + 1, [{ target := .collected D, args := #[] }], C2.W, { target := .fn (.func f) capsV.toArray, args := #[.func (.yield (D + 1)) #[] #[]] }, C2.W, f, (.func (.yield (D + 1)) #[] #[] :: capsV : List Value).toArray, C2.W, henter, ?_, fun _ _ => trivial, ?_, fun h => absurd h (by simp [Fw, Fence.wide]), ?_⟩
  · have e0 : a.eval (.const (.func (.yield (D + 1)) #[] #[])) = .func (.yield (D + 1)) #[] #[] := rfl
    simp only [resolve, hge, Deferred.ofValue, Sem.run_pure, List.map_toArray, List.map_cons, List.map_nil, e0, Array.empty_append]
  · have := entersB_run hent ((.func (.yield (D + 1)) #[] #[] :: capsV : List Value).toArray) C2.W
    simp only [invoke]
    rw [show (#[Value.func (.yield (D + 1)) #[] #[]] ++ capsV.toArray : Array Value) = (.func (.yield (D + 1)) #[] #[] :: capsV : List Value).toArray by simp]
    exact this
  · refine (callsIn_wide (n := n - 1)).2 ?_
    have hw := h a.tmps fid D
    rw [← hrec] at hw
    refine inl_calls (st := st2) (xs := .yld st.new :: caps) hr2' hf2 hfn hb (by simpa using hlen) hargs (Q := fun e s => match e with
      | .normal => rangeQ st.new st.n a.tmps Q s
      | .ret => rangeQ st.new st.n a.tmps Q s
      | _ => False) (by rw [hst2]; exact hw) ?_ ?_ ?_
    · intro e s C3 a3 he hq k1 k2
      have hq' : rangeQ st.new st.n a.tmps Q s := by rcases he with rfl | rfl <;> exact hq
      clear hq
      refine ⟨.tuple #[], by rw [results_eq, hres]; simp, ?_⟩
      obtain ⟨ob, r3, q1, q2, q3, q4, q5, q6⟩ := hq'
      obtain ⟨b3, l1, l2, l3, l4⟩ := loop_at k1 q1 q2
      have hb3 : b3 = D + 1 := by
        have := k1.keep st.new (D + 1) e2ρ
        rw [l1] at this; exact Option.some.inj this
      subst hb3
      have hrun := run_endLoop (P := P) l2 (by simpa [RecI.loop] using q5)
      obtain ⟨_, k3⟩ := k1.setRec (r' := { r3 with st := .exhausted }) q1 q2 l1 rfl rfl rfl
      obtain ⟨C4, hC4⟩ : ∃ C4 : Cx, C4 = ⟨C3.W.putObj (D + 1) (.loop ({ r3 with st := .exhausted } : RecI).loop), C3.ρ, C3.S⟩ := ⟨_, rfl⟩
      rw [← hC4] at k3
      have e4W : C4.W = C3.W.putObj (D + 1) (.loop ({ r3 with st := .exhausted } : RecI).loop) := by rw [hC4]
      have e4ρ : C4.ρ = C3.ρ := by rw [hC4]
      have k4 := (hr2'.leave k3).drop st.new
      have hlast : lookO (setRec s.obs st.new { r3 with st := .exhausted }) st.new = some ⟨0, 0, [], .loop { r3 with st := .exhausted }⟩ := by rw [lookO_setRec, if_pos rfl]
      obtain ⟨_, _, _, l5, l6⟩ := loop_at (ob := ⟨0, 0, [], .loop { r3 with st := .exhausted }⟩) k3 hlast rfl
      have hdd : dropO (setRec s.obs st.new { r3 with st := .exhausted }) st.new = dropO s.obs st.new := by
        unfold setRec
        rw [dropO, if_pos rfl]
        have : ∀ l : List (Nat × Ob), dropO (dropO l st.new) st.new = dropO l st.new := by
          intro l
          induction l with
          | nil => rfl
          | cons x l ih =>
            obtain ⟨k, v⟩ := x
            rw [dropO]
            by_cases e : k = st.new
            · rw [if_pos e]; exact ih
            · rw [if_neg e, dropO, if_neg e, ih]
        exact this _
      have k5 : Rel E C4 ⟨st.n, r3.regs, dropO s.obs st.new, s.new⟩ a1 := by
        have k6 := k4
        rw [hst2] at k6
        simp only [hdd] at k6
        refine ⟨k6.size, ?_, k6.obs, k6.inj, k6.own, k6.sub, k6.fr, k6.old, k6.up, k6.keep, k6.defs⟩
        intro t
        have := l6 t
        rw [ha1]
        show Re C4 (look r3.regs t) (a.tmps.getD t undef)
        rw [← q3]; exact this
      have k7 : Free C4 ⟨st.n, r3.regs, dropO s.obs st.new, s.new⟩ := fun k hk => by
        have := k2 k hk
        exact ⟨by rw [e4ρ]; exact this.1, lookO_none_drop this.2⟩
      have e4 : C4.W = C3.W.putObj (D + 1) (.loop { r3.loop with state := .exhausted }) := by rw [e4W]; rfl
      refine ⟨r3.loop.pending, _, hrun, ?_⟩
      rw [← e4, ← ha1]
      have hp : r3.loop.pending = r3.pend := rfl
      rw [hp]
      cases hpd : r3.pend with
      | none =>
        rw [hpd] at q6
        exact ⟨C4, _, rfl, k5, k7, q6⟩
      | some j =>
        rw [hpd] at q6
        cases j with
        | ret => exact wpIn_ret ⟨C4, _, rfl, k5, k7, q6⟩
        | exit i => exact wpIn_exit ⟨C4, _, rfl, k5, k7, q6⟩
        | _ => exact q6.elim
    · intro ch s C3 a3 hq k1 k2; exact hq.elim
    · intro e s he hq
      cases e with
      | normal => exact he.1 rfl
      | ret => exact he.2.1 rfl
      | _ => exact hq
end
end Go.Proofs.Ytipolblhiljoiaa.Sy

namespace Go.Proofs.Ytipolblhiljoiaa.Sy
open Go Go.RowKit
set_option linter.unusedVariables false
set_option linter.unusedSimpArgs false

/-- What comes out of a walk, in a contract's names. -/
structure OutFit (st : St) (π : List (Nat × Nat)) (rv r : PV) (pre post : List (Nat × Ob)) : Prop where
  r : rn2 (fwdN π) rv = r
  inj : ∀ n j, backN π j = some n ↔ fwdN π n = some j
  postF : ∀ j ob, lookO post j = some ob → ∃ n o, fwdN π n = some j ∧ lookO st.obs n = some o ∧ ob = rnOb (fwdN π) o ∧ postK o.k ob.sz ob.rows
  keep : ∀ j ob, lookO pre j = some ob → backN π j = none ∨ backN π j = some j
def retK (P : Program) (fn : Func) (r : PV) (pre post : List (Nat × Ob)) : Exit → St → Prop := fun e st =>
  (e = .normal ∨ e = .ret) ∧ resOf P st fn.results.toList fun l => ∃ π, OutFit st π (resV l) r pre post
/-- A panic, in a contract's names. -/
def panR (ch : List PanicEntry) (pre post : List (Nat × Ob)) : Exit → St → Prop := fun e st => e = .panic ch ∧ ∃ π, OutFit st π .un .un pre post
section
variable {P : Program} {E : En} {C : Cx} {st : St} {a : Act}
theorem out_post {C2 : Cx} {st1 : St} {a2 : Act} {pre post : List (Nat × Ob)} {π : List (Nat × Nat)} {rv r : PV} {v : Value} (hr2 : Rel (En.at C pre) C2 st1 a2) (hout : OutFit st1 π rv r pre post) (hre : Re C2 rv v) :
    ∃ C' : Cx, C'.W = C2.W ∧ Re C' r v ∧ PostOk C pre C' post := by
  refine ⟨⟨C2.W, fun j => match backN π j with | some n => C2.ρ n | none => C.ρ j, C2.S⟩, rfl, ?_, ?_⟩
  · rw [← hout.r]
    refine Re.rn2 (C := C2) rfl (fun n m b g1 g2 => ?_) (.inl fun _ h => h) hre
    simp only [(hout.inj n m).2 g1]
    exact g2
  · have fwd : ∀ n m b, fwdN π n = some m → C2.ρ n = some b → (match backN π m with | some n => C2.ρ n | none => C.ρ m) = some b := fun n m b g1 g2 => by
      simp only [(hout.inj n m).2 g1]; exact g2
    refine ⟨⟨fun j ob h => ?_, fun j j' b o1 o2 g1 g2 g3 g4 => ?_⟩, fun b hb => ?_, fun b hb hlt => ?_, fun j ob b g1 g2 => ?_, fun j ob b g1 g2 => ?_, ?_⟩
    · obtain ⟨n, o, g1, g2, rfl, gp⟩ := hout.postF j ob h
      have hb := (hout.inj n j).2 g1
      cases gk : o.k with
      | loop r => rw [gk] at gp; exact gp.elim
      | map =>
        obtain ⟨g0, b, es, cl, g5, g6, g7, g8⟩ := (hr2.obs n o g2).map gk
        have hkk : (rnOb (fwdN π) o).k = .map := gk
        unfold ObOk
        rw [hkk]
        refine ⟨fun r hr' => ?_, b, es, cl, fwd n j b g1 g5, g6, g7, ?_⟩
        · obtain ⟨r0, h1, rfl⟩ := List.mem_map.1 hr'
          rw [List.length_map]; exact g0 r0 h1
        · show ReL _ (o.rows.map (List.map (rn0 (fwdN π)))).flatten _
          rw [rows_rn_flatten]
          exact ReL.rn (C := C2) rfl fwd (.inl fun _ h => h) g8
      | cells =>
      have g4 : RowsOk (rnOb (fwdN π) o).sz (rnOb (fwdN π) o).rows := by rw [gk] at gp; exact gp
      refine .of_cells gk g4 ?_
      rcases (hr2.cells g2 gk).2 with ⟨g5, g6⟩ | ⟨b, cur, g5, g6, g7, g8⟩
      · exact .inl ⟨by simp only [hb]; exact g5, by simp [rnOb, g6]⟩
      · refine .inr ⟨b, cur, fwd n j b g1 g5, g6, g7, ?_⟩
        rw [rnOb_length]
        show ReL _ (o.rows.map (List.map (rn0 (fwdN π)))).flatten _
        rw [rows_rn_flatten]
        exact ReL.rn (C := C2) rfl fwd (.inl fun _ h => h) g8
    · obtain ⟨n, o, f1, f2, _, _⟩ := hout.postF j o1 g1
      obtain ⟨n', o', f1', f2', _, _⟩ := hout.postF j' o2 g2
      simp only [(hout.inj n j).2 f1] at g3
      simp only [(hout.inj n' j').2 f1'] at g4
      have := hr2.inj n n' b o o' f2 f2' g3 g4
      subst this
      rw [f1] at f1'; exact Option.some.inj f1'
    · exact hr2.sub b hb
    · have := hr2.old b hb (hlt)
      exact this
    · obtain ⟨n, o, f1, f2, _, _⟩ := hout.postF j ob g1
      simp only [(hout.inj n j).2 f1] at g2
      have := hr2.own n o b f2 g2
      exact this
    · rcases hout.keep j ob g1 with h | h
      · simp only [h]; exact g2
      · simp only [h]
        exact hr2.keep j b (g2)
    · have := hr2.fr
      exact this
theorem CallTo.of_walk {f : FuncId} {fn : Func} {c : Code} {args : List PV} {pre : List (Nat × Ob)} {en : Option (List PanicEntry)} {r : PV} {post : List (Nat × Ob)} (hf : P.funcs[f]? = some fn) (hb : fn.body = some c) (hent : entersB P f = true)
    (hlen : args.length ≤ fn.ntmps) (hpre : ∀ n, 64 ≤ n → lookO pre n = none) (h : WPg (.fn 64) P c ⟨fn.ntmps, parRegs 0 args, pre, 64⟩ (match en with
      | none => retK P fn r pre post
      | some ch => panR ch pre post)) (hr : en.isSome = true → r = .un) : CallTo P f args pre en r post := by
  refine ⟨hent, fun C vs hargs hob hsub hsm => ?_⟩
  have hr0 : Rel (En.at C pre) C ⟨fn.ntmps, [], pre, 64⟩ { tmps := Array.replicate fn.ntmps undef, defers := [] } := by
    refine ⟨by simp, fun t => .un _, hob.obs, hob.inj, fun nm ob b h1 h2 => .inl ⟨nm, ob, h1, h2⟩, hsub, Fr.refl _ _, fun b hb _ => .inl hb, fun b cur T fz h _ => h, fun n b h => h, ⟨[], rfl, List.nodup_nil, fun D hD => absurd hD (by simp)⟩⟩
  have hf0 : Free C ⟨fn.ntmps, [], pre, 64⟩ := fun n hn => ⟨hsm n hn, hpre n hn⟩
  refine inl_calls (st := ⟨fn.ntmps, [], pre, 64⟩) hr0 hf0 hf hb hlen hargs h ?_ ?_ ?_
  · intro e s C2 a2 he hq k1 k2
    cases en with
    | none =>
      obtain ⟨_, hres⟩ := hq
      obtain ⟨ps, v, ⟨π, hout⟩, hrun, hre⟩ := results_run (P := P) k1 hres
      obtain ⟨C', g1, g2, g3⟩ := out_post k1 hout hre
      exact ⟨v, hrun, v, C', rfl, g1, g2, g3⟩
    | some ch =>
      obtain ⟨e1, _⟩ := hq
      rcases he with rfl | rfl <;> cases e1
  · intro ch s C2 a2 hq k1 k2
    cases en with
    | none =>
      obtain ⟨e1, _⟩ := hq
      rcases e1 with e1 | e1 <;> cases e1
    | some ch' =>
      obtain ⟨e1, π, hout⟩ := hq
      cases e1
      obtain ⟨C', g1, g2, g3⟩ := out_post k1 hout (.un undef)
      obtain rfl := hr rfl
      exact ⟨undef, C', rfl, g1, g2, g3⟩
  · intro e s he hq
    cases en with
    | none =>
      rcases hq.1 with e1 | e1
      · exact he.1 e1
      · exact he.2.1 e1
    | some ch => exact he.2.2 ch hq.1
end
end Go.Proofs.Ytipolblhiljoiaa.Sy

namespace Go.Proofs.Ytipolblhiljoiaa.Sy
open Go Go.RowKit
set_option linter.unusedVariables false
set_option linter.unusedSimpArgs false

def allRegs (f : PV → PV) (src : List (Nat × PV)) : List (Nat × PV) → Prop
  | [] => True
  | (t, v) :: r => f (look src t) = v ∧ allRegs f src r
theorem allRegs_look {f : PV → PV} {src : List (Nat × PV)} : ∀ {tgt : List (Nat × PV)}, allRegs f src tgt → ∀ t, look tgt t = .un ∨ look tgt t = f (look src t)
  | [], _, t => .inl rfl
  | (k, v) :: r, h, t => by
    rw [look]
    by_cases e : k = t
    · rw [if_pos e, ← e]; exact .inr h.1.symm
    · rw [if_neg e]; exact allRegs_look h.2 t
def ren (b : Nat) (l : List (Nat × Nat)) : Nat → Option Nat := fun n => if n < b then some n else fwdN l n
def unren (b : Nat) (l : List (Nat × Nat)) : Nat → Option Nat := fun n => if n < b then some n else backN l n
def allObs (b : Nat) (l : List (Nat × Nat)) (src : List (Nat × Ob)) : List (Nat × Ob) → Prop
  | [] => True
  | (m, x) :: r => (match unren b l m with
    | some n => match lookO src n with
      | some ob => x.T = ob.T ∧ x.sz = ob.sz ∧ x.rows = ob.rows.map (List.map (rn0 (ren b l))) ∧ (match ob.k with
        | .cells => x.k = .cells ∧ RowsOk x.sz x.rows
        | .map => x.k = .map
        | .loop r => ∃ regs', x.k = .loop { r with regs := regs' } ∧ allRegs (rn2 (ren b l)) r.regs regs')
      | none => False
    | none => False) ∧ allObs b l src r
theorem allObs_look {b : Nat} {l : List (Nat × Nat)} {src : List (Nat × Ob)} : ∀ {tgt : List (Nat × Ob)}, allObs b l src tgt → ∀ m x, lookO tgt m = some x → ∃ n ob, unren b l m = some n ∧ lookO src n = some ob ∧ x.T = ob.T ∧ x.sz = ob.sz ∧ x.rows = ob.rows.map (List.map (rn0 (ren b l))) ∧ (match ob.k with
        | .cells => x.k = .cells ∧ RowsOk x.sz x.rows
        | .map => x.k = .map
        | .loop r => ∃ regs', x.k = .loop { r with regs := regs' } ∧ allRegs (rn2 (ren b l)) r.regs regs')
  | [], _, m, x, h => by cases h
  | (k, y) :: r, h, m, x, hx => by
    rw [lookO] at hx
    by_cases e : k = m
    · rw [if_pos e] at hx
      cases hx
      have h1 := h.1
      rw [e] at h1
      split at h1
      · rename_i n hn
        split at h1
        · rename_i ob hob
          exact ⟨n, ob, hn, hob, h1⟩
        · exact h1.elim
      · exact h1.elim
    · rw [if_neg e] at hx
      exact allObs_look h.2 m x hx
def lOk (b new : Nat) : List (Nat × Nat) → Prop
  | [] => b ≤ new
  | (n, m) :: r => b ≤ n ∧ b ≤ m ∧ m < new ∧ (∀ x ∈ r, x.1 ≠ n) ∧ (∀ x ∈ r, x.2 ≠ m) ∧ lOk b new r
theorem lOk_facts {b new : Nat} : ∀ {l : List (Nat × Nat)}, lOk b new l → b ≤ new ∧ (∀ x ∈ l, b ≤ x.1 ∧ b ≤ x.2 ∧ x.2 < new) ∧ (∀ n m, fwdN l n = some m ↔ (n, m) ∈ l) ∧ (∀ n m, backN l m = some n ↔ (n, m) ∈ l)
  | [], h => ⟨h, by simp, by simp [fwdN], by simp [backN]⟩
  | (k, j) :: r, h => by
    obtain ⟨h1, h2, h3, h4, h5, h6⟩ := h
    obtain ⟨g0, g1, g2, g3⟩ := lOk_facts h6
    refine ⟨g0, fun x hx => ?_, fun n m => ?_, fun n m => ?_⟩
    · rcases List.mem_cons.1 hx with e | e
      · rw [e]; exact ⟨h1, h2, h3⟩
      · exact g1 x e
    · by_cases e : k = n
      · subst e
        simp only [fwdN, List.find?_cons, beq_self_eq_true, Option.map_some, Option.some.injEq, List.mem_cons, Prod.mk.injEq, true_and]
        constructor
        · intro e; exact .inl e.symm
        · rintro (e | e)
          · exact e.symm
          · exact absurd rfl (h4 _ e)
      · have : fwdN ((k, j) :: r) n = fwdN r n := by
          unfold fwdN; rw [List.find?_cons_of_neg (by simpa using e)]
        rw [this, g2]
        simp only [List.mem_cons, Prod.mk.injEq]
        constructor
        · exact .inr
        · rintro (⟨e1, _⟩ | e1)
          · exact absurd e1.symm e
          · exact e1
    · by_cases e : j = m
      · subst e
        simp only [backN, List.find?_cons, beq_self_eq_true, Option.map_some, Option.some.injEq, List.mem_cons, Prod.mk.injEq, and_true]
        constructor
        · intro e; exact .inl e.symm
        · rintro (e | e)
          · exact e.symm
          · exact absurd rfl (h5 _ e)
      · have : backN ((k, j) :: r) m = backN r m := by
          unfold backN; rw [List.find?_cons_of_neg (by simpa using e)]
        rw [this, g3]
        simp only [List.mem_cons, Prod.mk.injEq]
        constructor
        · exact .inr
        · rintro (⟨_, e1⟩ | e1)
          · exact absurd e1.symm e
          · exact e1
/-- Other names. -/
theorem Wk.rn {base : Nat} (l : List (Nat × Nat)) {st st' : St} (hn : st'.n = st.n) (hl : lOk base st'.new l) (hregs : allRegs (rn2 (ren base l)) st.regs st'.regs) (hobs : allObs base l st.obs st'.obs) : Wk base st st' := by
  intro E C a hr hE hf
  obtain ⟨l0, l1, l2, l3⟩ := lOk_facts hl
  obtain ⟨C', hC'⟩ : ∃ C' : Cx, C' = ⟨C.W, fun m => (unren base l m).bind C.ρ, C.S⟩ := ⟨_, rfl⟩
  have e1 : C'.W = C.W := by rw [hC']
  have e2 : ∀ m, C'.ρ m = (unren base l m).bind C.ρ := fun m => by rw [hC']
  have e3 : ∀ b, C'.S b ↔ C.S b := fun b => by rw [hC']
  have back : ∀ n m, ren base l n = some m ↔ unren base l m = some n := by
    intro n m
    unfold ren unren
    by_cases h1 : n < base
    · rw [if_pos h1]
      constructor
      · intro e; cases e; rw [if_pos h1]
      · intro e
        split at e
        · exact e.symm
        · have := (l1 _ ((l3 n m).1 e)).1; omega
    · rw [if_neg h1]
      by_cases h2 : m < base
      · rw [if_pos h2]
        constructor
        · intro e
          have := (l1 _ ((l2 n m).1 e)).2.1; omega
        · intro e; cases e; omega
      · rw [if_neg h2, l2, l3]
  have hρ : ∀ n m b, ren base l n = some m → C.ρ n = some b → C'.ρ m = some b := fun n m b h1 h2 => by
    rw [e2, (back n m).1 h1]; exact h2
  have small : ∀ m, (unren base l m).isSome = true → m < st'.new := by
    intro m hm
    unfold unren at hm
    split at hm
    · omega
    · obtain ⟨n, hn⟩ := Option.isSome_iff_exists.1 hm
      exact (l1 _ ((l3 n m).1 hn)).2.2
  have regsOk : ∀ {src tgt : List (Nat × PV)} {tm : Array Value}, allRegs (rn2 (ren base l)) src tgt → RegsOk C src tm → RegsOk C' tgt tm := fun {src tgt tm} h hh t => by
    rcases allRegs_look h t with g | g
    · rw [g]; exact .un _
    · rw [g]; exact (hh t).rn2 e1 hρ (.inl fun b h => (e3 b).2 h)
  refine ⟨C', e1, ⟨hr.size.trans hn.symm, regsOk hregs hr.regs, fun m x hx => ?_, fun m m' b x x' h1 h2 h3 h4 => ?_, fun m x b h1 h2 => ?_, fun b hb => by rw [e1]; exact hr.sub b ((e3 b).1 hb), by rw [e1]; exact hr.fr, fun b hb hlt => hr.old b ((e3 b).1 hb) hlt, fun b cur T fz h1 h2 => (e3 b).2 (hr.up b cur T fz h1 h2), fun n b h => ?_, by rw [e1]; exact hr.defs⟩, fun m hm => ?_⟩
  · obtain ⟨n, ob, h1, h2, k1, k2, k3, k4⟩ := allObs_look hobs m x hx
    have hπ := (back n m).2 h1
    have hob := hr.obs n ob h2
    have hflat : x.rows.flatten = ob.rows.flatten.map (rn0 (ren base l)) := by rw [k3, rows_rn_flatten]
    split at k4
    · rename_i hk
      obtain ⟨k5, k6⟩ := k4
      refine .of_cells k5 k6 ?_
      rcases (hob.cells hk).2 with ⟨h5, h6⟩ | ⟨b, cur, h5, h6, h7, h8⟩
      · exact .inl ⟨by rw [e2, h1]; exact h5, by rw [k3, h6]; rfl⟩
      · refine .inr ⟨b, cur, hρ n m b hπ h5, fun h => h6 ((e3 b).1 h), by rw [e1, k1]; exact h7, ?_⟩
        rw [hflat, List.length_map]
        exact h8.rn e1 hρ (.inl fun b h => (e3 b).2 h)
    · rename_i hk
      obtain ⟨g0, b, es, cl, h5, h6, h7, h8⟩ := hob.map hk
      unfold ObOk; rw [k4]
      refine ⟨fun r hr' => ?_, b, es, cl, hρ n m b hπ h5, fun h => h6 ((e3 b).1 h), by rw [e1]; exact h7, ?_⟩
      · rw [k3] at hr'
        obtain ⟨r0, g1, rfl⟩ := List.mem_map.1 hr'
        rw [List.length_map]; exact g0 r0 g1
      · rw [hflat]; exact h8.rn e1 hρ (.inl fun b h => (e3 b).2 h)
    · rename_i r hk
      obtain ⟨regs', k5, k6⟩ := k4
      obtain ⟨g0, g1, g2, b, h5, h6, h7⟩ := hob.loop hk
      unfold ObOk; rw [k5]
      exact ⟨by rw [k3, g0]; rfl, g1, regsOk k6 g2, b, hρ n m b hπ h5, fun h => h6 ((e3 b).1 h), by rw [e1]; exact h7⟩
  · obtain ⟨n, ob, g1, g2, _⟩ := allObs_look hobs m x h1
    obtain ⟨n', ob', g1', g2', _⟩ := allObs_look hobs m' x' h2
    rw [e2, g1] at h3
    rw [e2, g1'] at h4
    have := hr.inj n n' b ob ob' g2 g2' h3 h4
    subst this
    have := (back n m).2 g1
    rw [(back n m').2 g1'] at this
    exact (Option.some.inj this).symm
  · obtain ⟨n, ob, g1, g2, _⟩ := allObs_look hobs m x h1
    rw [e2, g1] at h2
    exact hr.own n ob b g2 h2
  · exact hρ n n b (by unfold ren; rw [if_pos (hE n b h)]) (hr.keep n b h)
  · have hno : unren base l m = none := by
      cases hu : unren base l m with
      | none => rfl
      | some n => have := small m (by rw [hu]; rfl); omega
    refine ⟨by rw [e2, hno]; rfl, ?_⟩
    cases hx : lookO st'.obs m with
    | none => rfl
    | some x =>
      obtain ⟨n, ob, g1, _⟩ := allObs_look hobs m x hx
      rw [g1] at hno; cases hno
/-- A slice of no elements may lie in a block of no elements. -/
def nilSl (nm sz : Nat) : PV → PV
  | .val (.slice none 0 0) => .sl nm sz 0 0
  | .nl => .sl nm sz 0 0
  | p => p
theorem Re.nilSl {C : Cx} {p : PV} {v : Value} (nm sz : Nat) (h : Re C p v) : Re C (Sy.nilSl nm sz p) v := by
  unfold Sy.nilSl
  split
  · cases h; exact .sl0
  · cases h; exact .sl0
  · exact h
theorem ReL.mapf {C C' : Cx} {ps : List PV} {vs : List Value} {f : PV → PV} (h : ReL C ps vs) (hf : ∀ c ∈ ps, ∀ v, Re C c v → Re C' (f c) v) : ReL C' (ps.map f) vs :=
  ⟨by rw [List.length_map]; exact h.1, fun i i1 i2 => by rw [List.getElem_map]; exact hf _ (List.getElem_mem _) _ (h.2 i (by rw [List.length_map] at i1; exact i1) i2)⟩
def nilOb (nm sz : Nat) (x : Ob) : Ob := match x.k with
  | .cells => ⟨x.T, x.sz, x.rows.map (List.map (nilSl nm sz)), .cells⟩
  | _ => x
theorem nilSl_one (nm sz : Nat) {p : PV} (h : oneP p) : oneP (nilSl nm sz p) := by
  unfold nilSl; split
  · trivial
  · trivial
  · exact h
/-- Slices of no elements, in temporaries and in boxes, get a block. -/
theorem Wk.nil {base : Nat} (ts bs : List Nat) (T sz : Nat) {st : St} : Wk base st ⟨st.n, (st.regs.map fun x => if x.1 ∈ ts then (x.1, nilSl st.new sz x.2) else x), (st.new, ⟨T, sz, [], .cells⟩) :: (st.obs.map fun x => if x.1 ∈ bs then (x.1, nilOb st.new sz x.2) else x), st.new + 8⟩ := by
  intro E C a hr hE hf
  have hfree := hf st.new (Nat.le_refl _)
  have hlr : ∀ (l : List (Nat × PV)) (t : Nat), look (l.map fun x => if x.1 ∈ ts then (x.1, nilSl st.new sz x.2) else x) t = if t ∈ ts then nilSl st.new sz (look l t) else look l t := by
    intro l t
    induction l with
    | nil => simp [look, nilSl]
    | cons x l ih =>
      obtain ⟨k, v⟩ := x
      rw [List.map_cons]
      by_cases e : k = t
      · subst e
        by_cases e2 : k ∈ ts <;> simp [look, e2]
      · by_cases e2 : k ∈ ts
        · simp only [e2, if_true]; rw [look, if_neg e, ih, look, if_neg e]
        · simp only [e2, if_false]; rw [look, if_neg e, ih, look, if_neg e]
  have hlo : ∀ (l : List (Nat × Ob)) (t : Nat), lookO (l.map fun x => if x.1 ∈ bs then (x.1, nilOb st.new sz x.2) else x) t = if t ∈ bs then (lookO l t).map (nilOb st.new sz) else lookO l t := by
    intro l t
    induction l with
    | nil => simp [lookO]
    | cons x l ih =>
      obtain ⟨k, v⟩ := x
      rw [List.map_cons]
      by_cases e : k = t
      · subst e
        by_cases e2 : k ∈ bs <;> simp [lookO, e2]
      · by_cases e2 : k ∈ bs
        · simp only [e2, if_true]; rw [lookO, if_neg e, ih, lookO, if_neg e]
        · simp only [e2, if_false]; rw [lookO, if_neg e, ih, lookO, if_neg e]
  have hob : ∀ k ob, lookO ((st.new, (⟨T, sz, [], .cells⟩ : Ob)) :: (st.obs.map fun x => if x.1 ∈ bs then (x.1, nilOb st.new sz x.2) else x)) k = some ob →
      (k = st.new ∧ ob = ⟨T, sz, [], .cells⟩) ∨ ∃ ob0, lookO st.obs k = some ob0 ∧ (ob = ob0 ∨ ob = nilOb st.new sz ob0) := by
    intro k ob h
    rw [lookO] at h
    by_cases e : st.new = k
    · rw [if_pos e] at h; exact .inl ⟨e.symm, (Option.some.inj h).symm⟩
    · rw [if_neg e, hlo] at h
      by_cases e2 : k ∈ bs
      · rw [if_pos e2] at h
        obtain ⟨ob0, h1, h2⟩ := Option.map_eq_some_iff.1 h
        exact .inr ⟨ob0, h1, .inr h2.symm⟩
      · rw [if_neg e2] at h; exact .inr ⟨ob, h, .inl rfl⟩
  refine ⟨C, rfl, ⟨hr.size, fun t => ?_, fun k ob h => ?_, fun k k' b o1 o2 h1 h2 h3 h4 => ?_, fun k ob b h h2 => ?_, hr.sub, hr.fr, hr.old, hr.up, hr.keep, hr.defs⟩, fun k hk => ?_⟩
  · rw [hlr]
    split
    · exact (hr.regs t).nilSl _ _
    · exact hr.regs t
  · rcases hob k ob h with ⟨rfl, rfl⟩ | ⟨ob0, h1, rfl | rfl⟩
    · exact .of_cells rfl (fun r hr' => absurd hr' (by simp)) (.inl ⟨hfree.1, rfl⟩)
    · exact hr.obs k ob h1
    · have h0 := hr.obs k ob0 h1
      unfold nilOb
      split
      · rename_i hk
        obtain ⟨hrow, hh⟩ := h0.cells hk
        have hflat : ∀ rows : List (List PV), (rows.map (List.map (nilSl st.new sz))).flatten = rows.flatten.map (nilSl st.new sz) := by
          intro rows
          induction rows with
          | nil => rfl
          | cons r rows ih => rw [List.map_cons, List.flatten_cons, ih, List.flatten_cons, List.map_append]
        refine .of_cells rfl (fun r hr' => ?_) ?_
        · obtain ⟨r0, g1, rfl⟩ := List.mem_map.1 hr'
          refine ⟨by rw [List.length_map]; exact (hrow r0 g1).1, fun c hc => ?_⟩
          obtain ⟨c0, g2, rfl⟩ := List.mem_map.1 hc
          exact nilSl_one _ _ ((hrow r0 g1).2 c0 g2)
        · rcases hh with ⟨g1, g2⟩ | ⟨b, cur, g1, g2, g3, g4⟩
          · exact .inl ⟨g1, by simp [g2]⟩
          · refine .inr ⟨b, cur, g1, g2, g3, ?_⟩
            show ReL C (ob0.rows.map (List.map (nilSl st.new sz))).flatten (cur.toList.take (ob0.rows.map (List.map (nilSl st.new sz))).flatten.length)
            rw [hflat, List.length_map]
            exact g4.mapf (fun c _ v hv => hv.nilSl _ _)
      · exact h0
  · have old : ∀ k ob, lookO ((st.new, (⟨T, sz, [], .cells⟩ : Ob)) :: (st.obs.map fun x => if x.1 ∈ bs then (x.1, nilOb st.new sz x.2) else x)) k = some ob → C.ρ k = some b → ∃ ob0, lookO st.obs k = some ob0 := fun k ob h hb => by
      rcases hob k ob h with ⟨rfl, _⟩ | ⟨ob0, h1, _⟩
      · rw [hfree.1] at hb; cases hb
      · exact ⟨ob0, h1⟩
    obtain ⟨y, hy⟩ := old k o1 h1 h3
    obtain ⟨y', hy'⟩ := old k' o2 h2 h4
    exact hr.inj k k' b y y' hy hy' h3 h4
  · rcases hob k ob h with ⟨rfl, _⟩ | ⟨ob0, h1, _⟩
    · rw [hfree.1] at h2; cases h2
    · exact hr.own k ob0 b h1 h2
  · have hk' : st.new + 8 ≤ k := hk
    have hk2 := hf k (by omega)
    refine ⟨hk2.1, ?_⟩
    show lookO ((st.new, _) :: _) k = none
    rw [lookO, if_neg (by omega), hlo, hk2.2]
    split <;> rfl

/-- A slice of no elements, as one that nobody writes to. -/
def nilRd (sz : Nat) : PV → PV
  | .val (.slice none 0 0) => .rd sz []
  | .nl => .rd sz []
  | p => p
def nilRd1 (sz : Nat) : PV → PV
  | .agg cs => .agg (cs.map (nilRd sz))
  | p => nilRd sz p
theorem Re.nilRd {C : Cx} {p : PV} {v : Value} (sz : Nat) (h : Re C p v) : Re C (Sy.nilRd sz p) v := by
  unfold Sy.nilRd
  split
  · cases h; exact .rd0
  · cases h; exact .rd0
  · exact h
theorem Re.nilRd1 {C : Cx} {p : PV} {v : Value} (sz : Nat) (h : Re C p v) : Re C (Sy.nilRd1 sz p) v := by
  cases p with
  | agg cs =>
    cases h with
    | agg hl hh => exact .agg (by simpa using hl) (fun i h1 h2 => by rw [List.getElem_map]; exact (hh i (by simpa using h1) h2).nilRd sz)
  | _ => exact h.nilRd sz
/-- Some temporaries' values are told otherwise. -/
def allW (f : PV → PV) (src : List (Nat × PV)) : List (Nat × PV) → Prop
  | [] => True
  | (t, v) :: r => (v = look src t ∨ v = f (look src t)) ∧ allW f src r
theorem allW_look {f : PV → PV} {src : List (Nat × PV)} : ∀ {tgt : List (Nat × PV)}, allW f src tgt → ∀ t, look tgt t = .un ∨ look tgt t = look src t ∨ look tgt t = f (look src t)
  | [], _, t => .inl rfl
  | (k, v) :: r, h, t => by
    rw [look]
    by_cases e : k = t
    · rw [if_pos e, ← e]; exact .inr h.1
    · rw [if_neg e]; exact allW_look h.2 t
theorem Wk.regs {base : Nat} (f : PV → PV) (hf : ∀ (C : Cx) (p : PV) (v : Value), Re C p v → Re C (f p) v) {st : St} (regs' : List (Nat × PV)) (h : allW f st.regs regs') : Wk base st ⟨st.n, regs', st.obs, st.new⟩ := by
  intro E C a hr hE hfr
  refine ⟨C, rfl, ⟨hr.size, fun t => ?_, hr.obs, hr.inj, hr.own, hr.sub, hr.fr, hr.old, hr.up, hr.keep, hr.defs⟩, hfr⟩
  rcases allW_look h t with h | h | h
  · rw [h]; exact .un _
  · rw [h]; exact hr.regs t
  · rw [h]; exact hf _ _ _ (hr.regs t)
/-- What lies in boxes is told otherwise. -/
def mapOb (f : PV → PV) (x : Ob) : Ob := match x.k with
  | .cells => ⟨x.T, x.sz, x.rows.map (List.map f), .cells⟩
  | _ => x
theorem Wk.boxes {base : Nat} (f : PV → PV) (hf : ∀ (C : Cx) (p : PV) (v : Value), Re C p v → Re C (f p) v) (h1 : ∀ p, oneP p → oneP (f p)) (bs : List Nat) {st : St} : Wk base st ⟨st.n, st.regs, st.obs.map fun x => if x.1 ∈ bs then (x.1, mapOb f x.2) else x, st.new⟩ := by
  intro E C a hr hE hfr
  have hlo : ∀ (l : List (Nat × Ob)) (t : Nat), lookO (l.map fun x => if x.1 ∈ bs then (x.1, mapOb f x.2) else x) t = if t ∈ bs then (lookO l t).map (mapOb f) else lookO l t := by
    intro l t
    induction l with
    | nil => simp [lookO]
    | cons x l ih =>
      obtain ⟨k, v⟩ := x
      rw [List.map_cons]
      by_cases e : k = t
      · subst e
        by_cases e2 : k ∈ bs <;> simp [lookO, e2]
      · by_cases e2 : k ∈ bs
        · simp only [e2, if_true]; rw [lookO, if_neg e, ih, lookO, if_neg e]
        · simp only [e2, if_false]; rw [lookO, if_neg e, ih, lookO, if_neg e]
  have hob : ∀ k ob, lookO (st.obs.map fun x => if x.1 ∈ bs then (x.1, mapOb f x.2) else x) k = some ob → ∃ ob0, lookO st.obs k = some ob0 ∧ (ob = ob0 ∨ ob = mapOb f ob0) := by
    intro k ob h
    rw [hlo] at h
    by_cases e2 : k ∈ bs
    · rw [if_pos e2] at h
      obtain ⟨ob0, h1, h2⟩ := Option.map_eq_some_iff.1 h
      exact ⟨ob0, h1, .inr h2.symm⟩
    · rw [if_neg e2] at h; exact ⟨ob, h, .inl rfl⟩
  refine ⟨C, rfl, ⟨hr.size, hr.regs, fun k ob h => ?_, fun k k' b o1 o2 g1 g2 g3 g4 => ?_, fun k ob b h h2 => ?_, hr.sub, hr.fr, hr.old, hr.up, hr.keep, hr.defs⟩, fun k hk => ?_⟩
  · obtain ⟨ob0, g1, rfl | rfl⟩ := hob k ob h
    · exact hr.obs k ob g1
    · have h0 := hr.obs k ob0 g1
      unfold mapOb
      split
      · rename_i hk
        obtain ⟨hrow, hh⟩ := h0.cells hk
        have hflat : ∀ rows : List (List PV), (rows.map (List.map f)).flatten = rows.flatten.map f := by
          intro rows
          induction rows with
          | nil => rfl
          | cons r rows ih => rw [List.map_cons, List.flatten_cons, ih, List.flatten_cons, List.map_append]
        refine .of_cells rfl (fun r hr' => ?_) ?_
        · obtain ⟨r0, q1, rfl⟩ := List.mem_map.1 hr'
          refine ⟨by rw [List.length_map]; exact (hrow r0 q1).1, fun c hc => ?_⟩
          obtain ⟨c0, q2, rfl⟩ := List.mem_map.1 hc
          exact h1 _ ((hrow r0 q1).2 c0 q2)
        · rcases hh with ⟨q1, q2⟩ | ⟨b, cur, q1, q2, q3, q4⟩
          · exact .inl ⟨q1, by simp [q2]⟩
          · refine .inr ⟨b, cur, q1, q2, q3, ?_⟩
            show ReL C (ob0.rows.map (List.map f)).flatten (cur.toList.take (ob0.rows.map (List.map f)).flatten.length)
            rw [hflat, List.length_map]
            exact q4.mapf (fun c _ v hv => hf _ _ _ hv)
      · exact h0
  · obtain ⟨y, hy, _⟩ := hob k o1 g1
    obtain ⟨y', hy', _⟩ := hob k' o2 g2
    exact hr.inj k k' b y y' hy hy' g3 g4
  · obtain ⟨y, hy, _⟩ := hob k ob h
    exact hr.own k y b hy h2
  · have := hfr k hk
    refine ⟨this.1, ?_⟩
    show lookO (st.obs.map _) k = none
    rw [hlo, this.2]; split <;> rfl
theorem nilRd_one (sz : Nat) {p : PV} (h : oneP p) : oneP (nilRd sz p) := by
  unfold nilRd; split
  · trivial
  · trivial
  · exact h
theorem Wk.nilRd {base : Nat} (sz : Nat) {st : St} (regs' : List (Nat × PV)) (h : allW (nilRd1 sz) st.regs regs') : Wk base st ⟨st.n, regs', st.obs, st.new⟩ := .regs _ (fun _ _ _ h => h.nilRd1 sz) regs' h
theorem Wk.nilRdB {base : Nat} (sz : Nat) (bs : List Nat) {st : St} : Wk base st ⟨st.n, st.regs, st.obs.map fun x => if x.1 ∈ bs then (x.1, mapOb (Sy.nilRd sz) x.2) else x, st.new⟩ := .boxes _ (fun _ _ _ h => h.nilRd sz) (fun _ h => nilRd_one sz h) bs
/-- Nobody writes to these blocks any more: their names go. -/
def allObsL (obs : List (Nat × Ob)) (B : List Nat) : List (Nat × Ob) → Prop
  | [] => True
  | (m, x) :: r => (match lookO obs m with
    | some ob => m ∉ B ∧ ob.k = .cells ∧ x.k = .cells ∧ x.T = ob.T ∧ x.sz = ob.sz ∧ x.rows = ob.rows.map (List.map (low0 obs B)) ∧ RowsOk x.sz x.rows ∧ ∀ r ∈ ob.rows, ∀ c ∈ r, lendOk0 obs B c
    | none => False) ∧ allObsL obs B r
theorem allObsL_look {obs : List (Nat × Ob)} {B : List Nat} : ∀ {tgt : List (Nat × Ob)}, allObsL obs B tgt → ∀ m x, lookO tgt m = some x → ∃ ob, lookO obs m = some ob ∧ m ∉ B ∧ ob.k = .cells ∧ x = { ob with rows := ob.rows.map (List.map (low0 obs B)) } ∧ RowsOk x.sz x.rows ∧ ∀ r ∈ ob.rows, ∀ c ∈ r, lendOk0 obs B c
  | [], _, m, x, h => by cases h
  | (k, y) :: r, h, m, x, hx => by
    rw [lookO] at hx
    by_cases e : k = m
    · rw [if_pos e] at hx
      cases hx
      have h1 := h.1
      rw [e] at h1
      split at h1
      · rename_i ob hob
        obtain ⟨a0, ak, ax, a1, a2, a3, a4, a5⟩ := h1
        refine ⟨ob, hob, a0, ak, ?_, a4, a5⟩
        cases y; cases ob
        simp only at a1 a2 a3 ak ax
        subst a1; subst a2; subst a3; subst ak; subst ax; rfl
      · exact h1.elim
    · rw [if_neg e] at hx
      exact allObsL_look h.2 m x hx
def allLend (obs : List (Nat × Ob)) (B : List Nat) (src : List (Nat × PV)) : List (Nat × PV) → Prop
  | [] => True
  | (t, v) :: r => (low1 obs B (look src t) = v ∧ lendOk1 obs B (look src t)) ∧ allLend obs B src r
theorem allLend_look {obs : List (Nat × Ob)} {B : List Nat} {src : List (Nat × PV)} : ∀ {tgt : List (Nat × PV)}, allLend obs B src tgt → ∀ t, look tgt t = .un ∨ look tgt t = low1 obs B (look src t) ∧ lendOk1 obs B (look src t)
  | [], _, t => .inl rfl
  | (k, v) :: r, h, t => by
    rw [look]
    by_cases e : k = t
    · rw [if_pos e, ← e]; exact .inr ⟨h.1.1.symm, h.1.2⟩
    · rw [if_neg e]; exact allLend_look h.2 t
theorem Wk.frz {base : Nat} (B : List Nat) {st st' : St} (hn : st'.n = st.n) (hw : st'.new = st.new) (hB : ∀ n ∈ B, ∃ o, lookO st.obs n = some o ∧ nfRows o.rows) (hregs : allLend st.obs B st.regs st'.regs) (hobs : allObsL st.obs B st'.obs) : Wk base st st' := by
  intro E C a hr hE hf
  have hB' : ∀ n ∈ B, ∀ o, lookO st.obs n = some o → nfRows o.rows := fun n hn o ho => by
    obtain ⟨o', h1, h2⟩ := hB n hn
    rw [ho] at h1; cases h1; exact h2
  refine ⟨C.lend B, rfl, ⟨hr.size.trans hn.symm, fun t => ?_, fun m x hx => ?_, fun m m' b x x' h1 h2 h3 h4 => ?_, fun m x b h1 h2 => ?_, fun b hb => ?_, hr.fr, fun b hb hlt => ?_, fun b cur T fz h1 h2 => .inl (hr.up b cur T fz h1 h2), hr.keep, hr.defs⟩, fun m hm => ?_⟩
  · rcases allLend_look hregs t with h | ⟨h, h'⟩
    · rw [h]; exact .un _
    · rw [h]; exact (hr.regs t).low1 hr hB' h'
  · obtain ⟨ob, h1, h2, hk, rfl, h4, h5⟩ := allObsL_look hobs m x hx
    refine .of_cells hk h4 ?_
    rcases (hr.cells h1 hk).2 with ⟨h6, h7⟩ | ⟨b, cur, h6, h7, h8, h9⟩
    · exact .inl ⟨h6, by simp [h7]⟩
    · refine .inr ⟨b, cur, h6, fun hs => ?_, h8, ?_⟩
      · rcases hs with hs | ⟨n, hn1, hn2⟩
        · exact h7 hs
        · obtain ⟨o', g1, _⟩ := hB n hn1
          have := hr.inj m n b ob o' h1 g1 h6 hn2
          subst this; exact h2 hn1
      · have hfl : ∀ rows : List (List PV), (rows.map (List.map (low0 st.obs B))).flatten = rows.flatten.map (low0 st.obs B) := by
          intro rows
          induction rows with
          | nil => rfl
          | cons r rows ih => rw [List.map_cons, List.flatten_cons, ih, List.flatten_cons, List.map_append]
        show ReL (C.lend B) (ob.rows.map (List.map (low0 st.obs B))).flatten (cur.toList.take (ob.rows.map (List.map (low0 st.obs B))).flatten.length)
        rw [hfl, List.length_map]
        refine h9.mapf (fun c hc v hv => ?_)
        obtain ⟨r, hr1, hc1⟩ := List.mem_flatten.1 hc
        exact hv.low0 hr hB' (h5 r hr1 _ hc1)
  · obtain ⟨ob, g1, _⟩ := allObsL_look hobs m x h1
    obtain ⟨ob', g1', _⟩ := allObsL_look hobs m' x' h2
    exact hr.inj m m' b ob ob' g1 g1' h3 h4
  · obtain ⟨ob, g1, _⟩ := allObsL_look hobs m x h1
    exact hr.own m ob b g1 h2
  · rcases hb with hb | ⟨n, hn1, hn2⟩
    · exact hr.sub b hb
    · obtain ⟨o', g1, _⟩ := hB n hn1
      exact (live_block hr g1 hn2).2
  · rcases hb with hb | ⟨n, hn1, hn2⟩
    · exact hr.old b hb hlt
    · obtain ⟨o', g1, _⟩ := hB n hn1
      rcases hr.own n o' b g1 hn2 with h | h
      · exact .inr h
      · omega
  · rw [hw] at hm
    refine ⟨(hf m hm).1, ?_⟩
    cases hx : lookO st'.obs m with
    | none => rfl
    | some x =>
      obtain ⟨ob, g1, _⟩ := allObsL_look hobs m x hx
      rw [(hf m hm).2] at g1; cases g1
end Go.Proofs.Ytipolblhiljoiaa.Sy

namespace Go.Proofs.Ytipolblhiljoiaa.Sy
open Go Go.RowKit
set_option linter.unusedVariables false
set_option linter.unusedSimpArgs false

theorem WPg.wkQ {J : Jd} {P : Program} {c : Code} {st : St} {Q : Exit → St → Prop} (h : WPg J P c st fun e s => ∃ s', Wk J.base s s' ∧ Q e s') : WPg J P c st Q := fun E r n C a ho hE hr hf =>
  wpIn_mono (h E r n C a ho hE hr hf) (fun e a' W' ⟨C', s, h1, h2, h3, s', h4, h5⟩ => by
    obtain ⟨C'', g1, g2, g3⟩ := h4 E C' a' h2 hE h3
    exact ⟨C'', s', g1.trans h1, g2, g3, h5⟩)
theorem WPg.loopW {J : Jd} {P : Program} {b : Code} {st : St} {Q : Exit → St → Prop} (Inv : Nat → St → Prop) (h0 : ∃ n0 s0, Wk J.base st s0 ∧ Inv n0 s0)
    (step : ∀ m s, Inv m s → exec J P b s fun e s' => match e with
      | .normal => ∃ k s'', k < m ∧ Wk J.base s' s'' ∧ Inv k s''
      | e => Q e s') : WPg J P (.loop b) st Q := by
  obtain ⟨n0, s0, hw, hi⟩ := h0
  refine WPg.weak hw (WPg.loop (fun k s => ∃ s', Wk J.base s s' ∧ Inv k s') n0 ⟨s0, Wk.refl s0, hi⟩ ?_)
  rintro m s ⟨s', hw', hi'⟩
  refine WPg.weak hw' (WPg.mono (exec_sound b s' _ (step m s' hi')) ?_)
  intro e s2 h
  cases e with
  | normal =>
    obtain ⟨k, s'', h1, h2, h3⟩ := h
    exact ⟨k, h1, s'', h2, h3⟩
  | _ => exact h
/-- A function's end, by its results alone. -/
def retR (P : Program) (res : List ResultVar) (r : PV) (pre post : List (Nat × Ob)) : Exit → St → Prop := fun e st =>
  (e = .normal ∨ e = .ret) ∧ ∃ st', Wk 64 st st' ∧ resOf P st' res fun l => ∃ π, OutFit st' π (resV l) r pre post
/-- How a function comes out, for the way in which it ends. -/
def endR (P : Program) (res : List ResultVar) (en : Option (List PanicEntry)) (r : PV) (pre post : List (Nat × Ob)) : Exit → St → Prop := match en with
  | none => retR P res r pre post
  | some ch => fun e st => e = .panic ch ∧ ∃ st', Wk 64 st st' ∧ ∃ π, OutFit st' π .un .un pre post
theorem CallTo.of_execG {P : Program} {f : FuncId} {fn : Func} {c : Code} {n : Nat} {res : List ResultVar} {args : List PV} {pre : List (Nat × Ob)} {en : Option (List PanicEntry)} {r : PV} {post : List (Nat × Ob)} (hf : P.funcs[f]? = some fn) (hb : fn.body = some c) (hent : entersB P f = true)
    (hn : fn.ntmps = n) (hres : fn.results.toList = res) (hlen : args.length ≤ n) (hpre : ∀ n, 64 ≤ n → lookO pre n = none) (hr : en.isSome = true → r = .un) (h : exec (.fn 64) P c ⟨n, parRegs 0 args, pre, 64⟩ (endR P res en r pre post)) : CallTo P f args pre en r post := by
  subst hn; subst hres
  refine .of_walk hf hb hent hlen hpre (WPg.wkQ (WPg.mono (exec_sound _ _ _ h) ?_)) hr
  intro e s hq
  cases en with
  | none =>
    obtain ⟨h1, s', h2, h3⟩ := hq
    exact ⟨s', h2, h1, h3⟩
  | some ch =>
    obtain ⟨h1, s', h2, h3⟩ := hq
    exact ⟨s', h2, h1, h3⟩
theorem CallTo.of_exec {P : Program} {f : FuncId} {fn : Func} {c : Code} {n : Nat} {res : List ResultVar} {args : List PV} {pre : List (Nat × Ob)} {r : PV} {post : List (Nat × Ob)} (hf : P.funcs[f]? = some fn) (hb : fn.body = some c) (hent : entersB P f = true)
    (hn : fn.ntmps = n) (hres : fn.results.toList = res) (hlen : args.length ≤ n) (hpre : ∀ n, 64 ≤ n → lookO pre n = none) (h : exec (.fn 64) P c ⟨n, parRegs 0 args, pre, 64⟩ (retR P res r pre post)) : CallOk P f args pre r post :=
  .of_execG hf hb hent hn hres hlen hpre (fun h => by cases h) h
theorem resOf_mono {P : Program} {st : St} : ∀ {res : List ResultVar} {K K' : List PV → Prop}, (∀ l, K l → K' l) → resOf P st res K → resOf P st res K'
  | [], K, K', hk, h => hk _ h
  | .tmp t :: res, K, K', hk, h => resOf_mono (res := res) (fun l hl => hk _ hl) h
  | .cell x t :: res, K, K', hk, h => ⟨h.1, resOf_mono (res := res) (fun l hl => hk _ hl) h.2⟩
/-- A function's end, when no named block goes out. -/
theorem OutFit.plain {st : St} {rv r : PV} {pre : List (Nat × Ob)} (h1 : rv = r) (h2 : rn2 (fwdN []) r = r) : OutFit st [] rv r pre [] := by
  subst h1
  exact ⟨h2, fun n j => by simp [backN, fwdN], fun j ob h => (by cases h), fun j ob _ => .inl rfl⟩
theorem retR.plain {P : Program} {res : List ResultVar} {r : PV} {pre : List (Nat × Ob)} {e : Exit} {st : St} (he : e = .normal ∨ e = .ret) (h : resOf P st res fun l => resV l = r ∧ rn2 (fwdN []) r = r) : retR P res r pre [] e st :=
  ⟨he, st, Wk.refl st, resOf_mono (fun l hl => ⟨[], .plain hl.1 hl.2⟩) h⟩
/-- A function's end, when blocks that nobody writes to any more go out. -/
theorem retR.wk {P : Program} {res : List ResultVar} {r : PV} {pre : List (Nat × Ob)} {e : Exit} {st : St} (st' : St) (hw : Wk 64 st st') (he : e = .normal ∨ e = .ret) (h : resOf P st' res fun l => resV l = r ∧ rn2 (fwdN []) r = r) : retR P res r pre [] e st :=
  ⟨he, st', hw, resOf_mono (fun l hl => ⟨[], .plain hl.1 hl.2⟩) h⟩
def frzO (obs : List (Nat × Ob)) (B : List Nat) : List (Nat × Ob) := (obs.filter fun x => !B.contains x.1).map fun x => (x.1, { x.2 with rows := x.2.rows.map (List.map (low0 obs B)) })
def frzSt (B ts : List Nat) (st : St) : St := ⟨st.n, ts.map fun t => (t, low1 st.obs B (look st.regs t)), frzO st.obs B, st.new⟩
theorem retR.frz {P : Program} {res : List ResultVar} {r : PV} {pre : List (Nat × Ob)} {e : Exit} {st : St} (B ts : List Nat) (he : e = .normal ∨ e = .ret) (hB : ∀ n ∈ B, ∃ o, lookO st.obs n = some o ∧ nfRows o.rows) (hregs : allLend st.obs B st.regs (frzSt B ts st).regs)
    (hobs : allObsL st.obs B (frzSt B ts st).obs) (h : resOf P (frzSt B ts st) res fun l => resV l = r ∧ rn2 (fwdN []) r = r) : retR P res r pre [] e st :=
  .wk (frzSt B ts st) (Wk.frz B rfl rfl hB hregs hobs) he h
/-! ### Names of a contract, one by one -/
def piOk : List (Nat × Nat) → Prop
  | [] => True
  | (n, j) :: r => (∀ x ∈ r, x.1 ≠ n ∧ x.2 ≠ j) ∧ piOk r
theorem piOk.mem : ∀ {π : List (Nat × Nat)}, piOk π → (∀ n m, fwdN π n = some m ↔ (n, m) ∈ π) ∧ (∀ n m, backN π m = some n ↔ (n, m) ∈ π)
  | [], _ => ⟨by simp [fwdN], by simp [backN]⟩
  | (k, j) :: r, h => by
    obtain ⟨h1, h6⟩ := h
    obtain ⟨g2, g3⟩ := h6.mem
    refine ⟨fun n m => ?_, fun n m => ?_⟩
    · by_cases e : k = n
      · subst e
        simp only [fwdN, List.find?_cons, beq_self_eq_true, Option.map_some, Option.some.injEq, List.mem_cons, Prod.mk.injEq, true_and]
        constructor
        · intro e; exact .inl e.symm
        · rintro (e | e)
          · exact e.symm
          · exact absurd rfl (h1 _ e).1
      · have : fwdN ((k, j) :: r) n = fwdN r n := by
          unfold fwdN; rw [List.find?_cons_of_neg (by simpa using e)]
        rw [this, g2]
        simp only [List.mem_cons, Prod.mk.injEq]
        constructor
        · exact .inr
        · rintro (⟨e1, _⟩ | e1)
          · exact absurd e1.symm e
          · exact e1
    · by_cases e : j = m
      · subst e
        simp only [backN, List.find?_cons, beq_self_eq_true, Option.map_some, Option.some.injEq, List.mem_cons, Prod.mk.injEq, and_true]
        constructor
        · intro e; exact .inl e.symm
        · rintro (e | e)
          · exact e.symm
          · exact absurd rfl (h1 _ e).2
      · have : backN ((k, j) :: r) m = backN r m := by
          unfold backN; rw [List.find?_cons_of_neg (by simpa using e)]
        rw [this, g3]
        simp only [List.mem_cons, Prod.mk.injEq]
        constructor
        · exact .inr
        · rintro (⟨_, e1⟩ | e1)
          · exact absurd e1.symm e
          · exact e1
theorem piOk.inj {π : List (Nat × Nat)} (h : piOk π) (n j : Nat) : backN π j = some n ↔ fwdN π n = some j := (h.mem.2 n j).trans (h.mem.1 n j).symm
def preAll (π : List (Nat × Nat)) (obs : List (Nat × Ob)) : List (Nat × Ob) → Prop
  | [] => True
  | (j, ob) :: r => (match backN π j with
    | some n => match lookO obs n with
      | some o => ob = rnOb (fwdN π) o ∧ RowsOk ob.sz ob.rows ∧ ob.k = .cells
      | none => False
    | none => False) ∧ preAll π obs r
theorem preAll.at {π : List (Nat × Nat)} {obs : List (Nat × Ob)} : ∀ {pre : List (Nat × Ob)}, preAll π obs pre → ∀ j ob, lookO pre j = some ob → ∃ n o, backN π j = some n ∧ lookO obs n = some o ∧ ob = rnOb (fwdN π) o ∧ RowsOk ob.sz ob.rows ∧ ob.k = .cells
  | [], _, j, ob, h => by cases h
  | (k, x) :: r, h, j, ob, hl => by
    rw [lookO] at hl
    by_cases e : k = j
    · rw [if_pos e] at hl; cases hl
      have h1 := h.1
      rw [e] at h1
      split at h1
      · rename_i n hn
        split at h1
        · rename_i o ho; exact ⟨n, o, hn, ho, h1⟩
        · exact h1.elim
      · exact h1.elim
    · rw [if_neg e] at hl; exact preAll.at h.2 j ob hl
def smallAll (new : Nat) (pre : List (Nat × Ob)) : List (Nat × Nat) → Prop
  | [] => True
  | (n, j) :: r => j < 64 ∧ n < new ∧ (lookO pre j).isSome = true ∧ smallAll new pre r
theorem smallAll.at {new : Nat} {pre : List (Nat × Ob)} : ∀ {π : List (Nat × Nat)}, smallAll new pre π → ∀ n j, (n, j) ∈ π → j < 64 ∧ n < new ∧ (lookO pre j).isSome = true
  | (k, i) :: r, h, n, j, hm => by
    rcases List.mem_cons.1 hm with e | e
    · cases e; exact ⟨h.1, h.2.1, h.2.2.1⟩
    · exact smallAll.at h.2.2.2 n j e
def postAll (π : List (Nat × Nat)) (new : Nat) : List (Nat × Ob) → Prop
  | [] => True
  | (j, ob) :: r => (outN π new j).isSome = true ∧ postK ob.k ob.sz (rnOb (outN π new) ob).rows ∧ postAll π new r
theorem postAll.at {π : List (Nat × Nat)} {new : Nat} : ∀ {post : List (Nat × Ob)}, postAll π new post → ∀ j ob, lookO post j = some ob → (outN π new j).isSome = true ∧ postK ob.k ob.sz (rnOb (outN π new) ob).rows
  | [], _, j, ob, h => by cases h
  | (k, x) :: r, h, j, ob, hl => by
    rw [lookO] at hl
    by_cases e : k = j
    · rw [if_pos e] at hl; cases hl
      subst e
      exact ⟨h.1, h.2.1⟩
    · rw [if_neg e] at hl; exact postAll.at h.2.2 j ob hl
/-- Blocks that go out. -/
def outAll (π : List (Nat × Nat)) (obs : List (Nat × Ob)) : List (Nat × Ob) → Prop
  | [] => True
  | (j, ob) :: r => (match backN π j with
    | some n => match lookO obs n with
      | some o => ob = rnOb (fwdN π) o ∧ postK o.k ob.sz ob.rows
      | none => False
    | none => False) ∧ outAll π obs r
theorem outAll.at {π : List (Nat × Nat)} {obs : List (Nat × Ob)} : ∀ {post : List (Nat × Ob)}, outAll π obs post → ∀ j ob, lookO post j = some ob → ∃ n o, backN π j = some n ∧ lookO obs n = some o ∧ ob = rnOb (fwdN π) o ∧ postK o.k ob.sz ob.rows
  | [], _, j, ob, h => by cases h
  | (k, x) :: r, h, j, ob, hl => by
    rw [lookO] at hl
    by_cases e : k = j
    · rw [if_pos e] at hl; cases hl
      have h1 := h.1
      rw [e] at h1
      split at h1
      · rename_i n hn
        split at h1
        · rename_i o ho; exact ⟨n, o, hn, ho, h1⟩
        · exact h1.elim
      · exact h1.elim
    · rw [if_neg e] at hl; exact outAll.at h.2 j ob hl
def keepAll (π : List (Nat × Nat)) : List (Nat × Ob) → Prop
  | [] => True
  | (j, _) :: r => (backN π j = none ∨ backN π j = some j) ∧ keepAll π r
theorem keepAll.at {π : List (Nat × Nat)} : ∀ {pre : List (Nat × Ob)}, keepAll π pre → ∀ j ob, lookO pre j = some ob → backN π j = none ∨ backN π j = some j
  | [], _, j, ob, h => by cases h
  | (k, x) :: r, h, j, ob, hl => by
    rw [lookO] at hl
    by_cases e : k = j
    · subst e; exact h.1
    · rw [if_neg e] at hl; exact keepAll.at h.2 j ob hl
theorem OutFit.own {st : St} {rv r : PV} {pre post : List (Nat × Ob)} (π : List (Nat × Nat)) (h1 : rn2 (fwdN π) rv = r) (hπ : piOk π) (hp : outAll π st.obs post) (hk : keepAll π pre) : OutFit st π rv r pre post :=
  ⟨h1, hπ.inj, fun j ob h => by
    obtain ⟨n, o, g1, g2, g3⟩ := hp.at j ob h
    exact ⟨n, o, (hπ.inj n j).1 g1, g2, g3⟩, hk.at⟩
/-- A function's end, when named blocks go out. -/
theorem retR.own {P : Program} {res : List ResultVar} {r : PV} {pre post : List (Nat × Ob)} {e : Exit} {st : St} (π : List (Nat × Nat)) (he : e = .normal ∨ e = .ret) (hπ : piOk π) (hp : outAll π st.obs post) (hk : keepAll π pre)
    (h : resOf P st res fun l => rn2 (fwdN π) (resV l) = r) : retR P res r pre post e st :=
  ⟨he, st, Wk.refl st, resOf_mono (fun l hl => ⟨π, .own π hl hπ hp hk⟩) h⟩
theorem endR.pan {P : Program} {res : List ResultVar} {ch : List PanicEntry} {r : PV} {pre : List (Nat × Ob)} {e : Exit} {st : St} (he : e = .panic ch) : endR P res (some ch) r pre [] e st :=
  ⟨he, st, Wk.refl st, [], .plain rfl rfl⟩
/-! ### What simp does -/
section
variable {P : Program}
@[simp] theorem runR_mk (ok : Prop) (v : PV) (u : Upd) (n : Nat) (regs : List (Nat × PV)) (obs : List (Nat × Ob)) (new : Nat) (K : KS) : runR ⟨ok, v, u⟩ ⟨n, regs, obs, new⟩ K ↔ ok ∧ (ok → uOk u (new + 8) ∧ K v (applyU obs u) (new + 8)) := by
  unfold runR
  exact ⟨fun ⟨h1, h2⟩ => ⟨h1, fun _ => h2⟩, fun ⟨h1, h2⟩ => ⟨h1, h2 h1⟩⟩
@[congr] theorem runR_congr {r r' : R} {st st' : St} {K : KS} (h : r = r') (h' : st = st') : runR r st K = runR r' st' K := by rw [h, h']
@[simp ↓ high] theorem condK_true (X Y : Prop) : condK (.val (.bool true)) X Y ↔ X := by simp [condK]
@[simp ↓ high] theorem condK_false (X Y : Prop) : condK (.val (.bool false)) X Y ↔ Y := by simp [condK]
@[simp ↓ high] theorem condK_any (X Y : Prop) : condK .anyB X Y ↔ X ∧ Y := Iff.rfl
theorem condK_val (t : Bool) (X Y : Prop) : condK (.val (.bool t)) X Y ↔ (t = true → X) ∧ (t = false → Y) := Iff.rfl
@[simp ↓ high] theorem guardK_tt (X Y : Prop) : guardK (.val (.bool true)) true X Y ↔ X := by simp [guardK]
@[simp ↓ high] theorem guardK_ff (X Y : Prop) : guardK (.val (.bool false)) false X Y ↔ X := by simp [guardK]
@[simp ↓ high] theorem guardK_tf (X Y : Prop) : guardK (.val (.bool true)) false X Y ↔ Y := by simp [guardK]
@[simp ↓ high] theorem guardK_ft (X Y : Prop) : guardK (.val (.bool false)) true X Y ↔ Y := by simp [guardK]
@[simp ↓ high] theorem guardK_un (w : Bool) (X Y : Prop) : guardK (.val undef) w X Y ↔ Y := Iff.rfl
theorem guardK_val (b w : Bool) (X Y : Prop) : guardK (.val (.bool b)) w X Y ↔ (b = w → X) ∧ (b ≠ w → Y) := Iff.rfl
@[congr] theorem guardK_congr {p p' : PV} {w : Bool} {X Y : Prop} (h : p = p') : guardK p w X Y = guardK p' w X Y := by rw [h]
@[congr] theorem condK_congr {p p' : PV} {X Y : Prop} (h : p = p') : condK p X Y = condK p' X Y := by rw [h]
@[congr] theorem callK_congr {g : FuncId} {xs xs' : List PV} {st st' : St} {Qp : List PanicEntry → St → Prop} {K : KS} (h : xs = xs') (h' : st = st') : callK P g xs st Qp K = callK P g xs' st' Qp K := by rw [h, h']
@[congr] theorem yieldK_congr {nm : Nat} {xs xs' : List PV} {st st' : St} {K : KS} (h : xs = xs') (h' : st = st') : yieldK P nm xs st K = yieldK P nm xs' st' K := by rw [h, h']
@[congr] theorem calleeK_congr {p p' : PV} {xs xs' : List PV} {st st' : St} {Qp : List PanicEntry → St → Prop} {K : KS} (h : p = p') (h0 : xs = xs') (h' : st = st') : calleeK P p xs st Qp K = calleeK P p' xs' st' Qp K := by rw [h, h0, h']
@[congr] theorem panicK_congr {p p' : PV} {st st' : St} {Qp : List PanicEntry → St → Prop} (h : p = p') (h' : st = st') : panicK p st Qp = panicK p' st' Qp := by rw [h, h']
@[congr] theorem WPg_congr {J : Jd} {c : Code} {st st' : St} {Q : Exit → St → Prop} (h : st = st') : WPg J P c st Q = WPg J P c st' Q := by rw [h]
@[simp] theorem calleeK_clo (g : FuncId) (caps xs : List PV) (st : St) (Qp : List PanicEntry → St → Prop) (K : KS) : calleeK P (.clo g caps) xs st Qp K = callK P g (xs ++ caps) st Qp K := rfl
@[simp] theorem calleeK_bnd (g : FuncId) (first xs : List PV) (st : St) (Qp : List PanicEntry → St → Prop) (K : KS) : calleeK P (.bnd g first) xs st Qp K = callK P g (first ++ xs) st Qp K := rfl
@[simp] theorem calleeK_yld (nm : Nat) (xs : List PV) (st : St) (Qp : List PanicEntry → St → Prop) (K : KS) : calleeK P (.yld nm) xs st Qp K = yieldK P nm xs st K := rfl
@[simp] theorem panicK_iface (t : TypeId) (v : Value) (st : St) (Qp : List PanicEntry → St → Prop) : panicK (.val (.iface t v)) st Qp = Qp [{ v := .iface t v, recovered := false }] st := rfl
@[congr] theorem callT_congr {g : FuncId} {xs xs' : List PV} {st st' : St} {K : Tr → Prop} (h : xs = xs') (h' : st = st') : callT P g xs st K = callT P g xs' st' K := by rw [h, h']
@[simp] theorem runT_mk (ok : Prop) (v : PV) (u : Upd) (k : Nat) (T : List Nat) (K : Tr → Prop) : runT ⟨ok, v, u⟩ k T K ↔ ok ∧ (ok → uOk u k ∧ K ⟨v, u, T ++ u.map (·.1)⟩) := by
  unfold runT
  exact ⟨fun ⟨h1, h2⟩ => ⟨h1, fun _ => h2⟩, fun ⟨h1, h2⟩ => ⟨h1, h2 h1⟩⟩
@[congr] theorem runT_congr {r r' : R} {k : Nat} {T T' : List Nat} {K : Tr → Prop} (h : r = r') (h' : T = T') : runT r k T K = runT r' k T' K := by rw [h, h']
@[congr] theorem execT_congr {all l : List Oper} {st st' : St} {tr : List Tr} {K : St → List Tr → Prop} (h : st = st') : execT P all l st tr K = execT P all l st' tr K := by rw [h]
@[congr] theorem execOps_congr {all l : List Oper} {st st' : St} {Qp : List PanicEntry → St → Prop} {K : St → Prop} (h : st = st') : execOps P all l st Qp K = execOps P all l st' Qp K := by rw [h]
@[congr] theorem exec_congr {J : Jd} {c : Code} {st st' : St} {Q : Exit → St → Prop} (h : st = st') : exec J P c st Q = exec J P c st' Q := by rw [h]
@[congr] theorem stepT_congr {o : Oper} {st st' : St} {K : Tr → Prop} (h : st = st') : stepT P o st K = stepT P o st' K := by rw [h]
@[congr] theorem stepK_congr {o : Oper} {st st' : St} {Qp : List PanicEntry → St → Prop} {K : KS} (h : st = st') : stepK P o st Qp K = stepK P o st' Qp K := by rw [h]
@[congr] theorem drawOk_congr {ops : Array Oper} {b : Nat} {tr : List Tr} : drawOk ops b tr = drawOk ops b tr := rfl
@[congr] theorem retR_congr {res : List ResultVar} {r : PV} {pre post : List (Nat × Ob)} {e e' : Exit} {st st' : St} (h : e = e') (h' : st = st') : retR P res r pre post e st = retR P res r pre post e' st' := by rw [h, h']
@[congr] theorem roundK_congr {nm : Nat} {K : KS} {e e' : Exit} {st st' : St} (h : e = e') (h' : st = st') : roundK nm K e st = roundK nm K e' st' := by rw [h, h']
@[congr] theorem rangeQ_congr {nm n : Nat} {tm : Array Value} {Q : Exit → St → Prop} {st st' : St} (h' : st = st') : rangeQ nm n tm Q st = rangeQ nm n tm Q st' := by rw [h']
@[simp low] theorem aPick_bool (t : Bool) (x y : PV) : aPick (.val (.bool t)) x y = ⟨True, if t then x else y, []⟩ := rfl
@[simp high] theorem aPick_true (x y : PV) : aPick (.val (.bool true)) x y = ⟨True, x, []⟩ := rfl
@[simp high] theorem aPick_false (x y : PV) : aPick (.val (.bool false)) x y = ⟨True, y, []⟩ := rfl
@[simp] theorem aPick_vals (t a b : Bool) : aPick (.val (.bool t)) (.val (.bool a)) (.val (.bool b)) = ⟨True, .val (.bool (if t = true then a else b)), []⟩ := by cases t <;> rfl
@[simp] theorem aExtract_tup (vs : List PV) (i : Nat) : aExtract (.tup vs) i = ⟨i < vs.length, vs.getD i .un, []⟩ := rfl
@[simp] theorem aMakeFunc_func (f : FuncId) (caps : List PV) : aMakeFunc (.func f) [] caps = ⟨True, .clo f caps, []⟩ := by cases caps <;> rfl
@[simp] theorem aMakeFunc_bnd (f : FuncId) (x : PV) (first : List PV) : aMakeFunc (.func f) (x :: first) [] = ⟨True, .bnd f (x :: first), []⟩ := rfl
@[simp] theorem aNilCheck_ref (nm sz row off : Nat) : aNilCheck (.ref nm sz row off) = ⟨True, .ref nm sz row off, []⟩ := rfl
@[simp] theorem aNilCheck_rp (sz : Nat) (rows : List (List PV)) (row off : Nat) : aNilCheck (.rp sz rows row off) = ⟨True, .rp sz rows row off, []⟩ := rfl
@[simp] theorem aNilCheck_clo (f : FuncId) (caps : List PV) : aNilCheck (.clo f caps) = ⟨True, .clo f caps, []⟩ := rfl
@[simp] theorem aNilCheck_bnd (f : FuncId) (caps : List PV) : aNilCheck (.bnd f caps) = ⟨True, .bnd f caps, []⟩ := rfl
@[simp] theorem aNilCheck_yld (nm : Nat) : aNilCheck (.yld nm) = ⟨True, .yld nm, []⟩ := rfl
@[simp] theorem aLen_str (t : TypeId) (s : ByteArray) : aLen P t (.val (.string s)) = match P.underlying t with
  | some .string => ⟨True, .val (.int .i64 s.size), []⟩
  | _ => .bad := by
  unfold aLen lenS
  cases P.underlying t with
  | none => rfl
  | some d => cases d <;> rfl
@[simp] theorem aLen_sl (t : TypeId) (nm sz off len : Nat) : aLen P t (.sl nm sz off len) = match P.underlying t with
  | some (.slice _) => ⟨True, .val (.int .i64 len), []⟩
  | _ => .bad := by
  unfold aLen lenS
  cases P.underlying t with
  | none => rfl
  | some d => cases d <;> rfl
@[simp] theorem aLen_rd (t : TypeId) (sz : Nat) (rows : List (List PV)) : aLen P t (.rd sz rows) = match P.underlying t with
  | some (.slice _) => ⟨True, .val (.int .i64 rows.length), []⟩
  | _ => .bad := by
  unfold aLen lenS
  cases P.underlying t with
  | none => rfl
  | some d => cases d <;> rfl
@[simp] theorem aLen_nil (t : TypeId) : aLen P t (.val (.slice none 0 0)) = match P.underlying t with
  | some (.slice _) => ⟨True, .val (.int .i64 0), []⟩
  | _ => .bad := by
  unfold aLen lenS
  cases P.underlying t with
  | none => rfl
  | some d => cases d <;> rfl
@[simp] theorem aSlice_str (T : TypeId) (s : ByteArray) (lo hi mx : Option PV) : aSlice P T (.val (.string s)) lo hi mx = match P.underlying T with
  | some .string => match ofInt lo 0, ofInt hi s.size, mx with
    | some l, some h, none => ⟨0 ≤ l ∧ l ≤ h ∧ h ≤ s.size, .val (.string (s.extract l.toNat h.toNat)), []⟩
    | _, _, _ => .bad
  | _ => .bad := by
  unfold aSlice
  cases P.underlying T with
  | none => rfl
  | some d => cases d <;> rfl
@[simp] theorem aSlice_sl (T : TypeId) (nm sz off len : Nat) (lo hi mx : Option PV) : aSlice P T (.sl nm sz off len) lo hi mx = match P.underlying T with
  | some (.slice e) => match ofInt lo 0, ofInt hi len, ofInt mx len with
    | some l, some h, some m => ⟨(mx.isSome = true → hi.isSome = true) ∧ cutOk len l h (if mx.isSome then some m else none) ∧ tsize P e = some sz, .sl nm sz (off + l.toNat) (h.toNat - l.toNat), []⟩
    | _, _, _ => .bad
  | _ => .bad := by
  unfold aSlice
  cases P.underlying T with
  | none => rfl
  | some d => cases d <;> rfl
@[simp] theorem aSlice_rd (T : TypeId) (sz : Nat) (rows : List (List PV)) (lo hi mx : Option PV) : aSlice P T (.rd sz rows) lo hi mx = match P.underlying T with
  | some (.slice e) => match ofInt lo 0, ofInt hi rows.length, ofInt mx rows.length with
    | some l, some h, some m => ⟨(mx.isSome = true → hi.isSome = true) ∧ cutOk rows.length l h (if mx.isSome then some m else none) ∧ tsize P e = some sz, if mx.isSome = true ∧ m = l then .nl else .rd sz ((rows.take h.toNat).drop l.toNat), []⟩
    | _, _, _ => .bad
  | _ => .bad := by
  unfold aSlice
  cases P.underlying T with
  | none => rfl
  | some d => cases d <;> rfl
@[simp] theorem aSlice_nl (T : TypeId) (lo hi mx : Option PV) : aSlice P T .nl lo hi mx = match P.underlying T with
  | some (.slice e) => match ofInt lo 0, ofInt hi 0, ofInt mx 0 with
    | some l, some h, some m => ⟨(mx.isSome = true → hi.isSome = true) ∧ cutOk 0 l h (if mx.isSome then some m else none) ∧ (tsize P e).isSome = true, .nl, []⟩
    | _, _, _ => .bad
  | _ => .bad := by
  unfold aSlice
  cases P.underlying T with
  | none => rfl
  | some d => cases d <;> rfl
@[simp] theorem aLen_nl (t : TypeId) : aLen P t .nl = match P.underlying t with
  | some (.slice _) => ⟨True, .val (.int .i64 0), []⟩
  | _ => .bad := by
  unfold aLen lenS
  cases P.underlying t with
  | none => rfl
  | some d => cases d <;> rfl
@[simp] theorem aSlice_nil (T : TypeId) (lo hi mx : Option PV) : aSlice P T (.val (.slice none 0 0)) lo hi mx = match P.underlying T with
  | some (.slice e) => match ofInt lo 0, ofInt hi 0, mx with
    | some l, some h, none => ⟨l = 0 ∧ h = 0 ∧ (tsize P e).isSome = true, .val (.slice none 0 0), []⟩
    | _, _, _ => .bad
  | _ => .bad := by
  unfold aSlice
  cases P.underlying T with
  | none => rfl
  | some d => cases d <;> rfl
@[simp] theorem aIndexAddr_sl (T : TypeId) (nm sz off len : Nat) (k : IntKind) (i : Int) : aIndexAddr P T (.sl nm sz off len) (.val (.int k i)) = match P.underlying T with
  | some (.slice e) => ⟨0 ≤ i ∧ i < len ∧ tsize P e = some sz, .ref nm sz (off + i.toNat) 0, []⟩
  | _ => .bad := by
  unfold aIndexAddr
  cases P.underlying T with
  | none => rfl
  | some d => cases d <;> rfl
@[simp] theorem aIndexAddr_rd (T : TypeId) (sz : Nat) (rows : List (List PV)) (k : IntKind) (i : Int) : aIndexAddr P T (.rd sz rows) (.val (.int k i)) = match P.underlying T with
  | some (.slice e) => ⟨0 ≤ i ∧ i < rows.length ∧ tsize P e = some sz, .rp sz rows i.toNat 0, []⟩
  | _ => .bad := by
  unfold aIndexAddr
  cases P.underlying T with
  | none => rfl
  | some d => cases d <;> rfl
@[simp] theorem aIndexAddr_ref (T : TypeId) (nm sz row off : Nat) (k : IntKind) (i : Int) : aIndexAddr P T (.ref nm sz row off) (.val (.int k i)) = match P.underlying T with
  | some (.array n e) => match tsize P e with
    | some m => ⟨0 ≤ i ∧ i < n, .ref nm sz row (off + i.toNat * m), []⟩
    | none => .bad
  | _ => .bad := by
  unfold aIndexAddr
  cases P.underlying T with
  | none => rfl
  | some d => cases d <;> rfl
@[simp] theorem aIndexAddr_rp (T : TypeId) (sz : Nat) (rows : List (List PV)) (row off : Nat) (k : IntKind) (i : Int) : aIndexAddr P T (.rp sz rows row off) (.val (.int k i)) = match P.underlying T with
  | some (.array n e) => match tsize P e with
    | some m => ⟨0 ≤ i ∧ i < n, .rp sz rows row (off + i.toNat * m), []⟩
    | none => .bad
  | _ => .bad := by
  unfold aIndexAddr
  cases P.underlying T with
  | none => rfl
  | some d => cases d <;> rfl
@[simp] theorem aIndex_str (T : TypeId) (s : ByteArray) (k : IntKind) (i : Int) : aIndex P T (.val (.string s)) (.val (.int k i)) = match P.underlying T with
  | some .string => ⟨0 ≤ i ∧ i < s.size, .val (.int .u8 (btv s i)), []⟩
  | _ => .bad := by
  unfold aIndex
  cases P.underlying T with
  | none => rfl
  | some d => cases d <;> rfl
@[simp] theorem aIndex_agg (T : TypeId) (cs : List PV) (k : IntKind) (i : Int) : aIndex P T (.agg cs) (.val (.int k i)) = match P.underlying T with
  | some (.array n e) => match P.underlying e, tsize P e with
    | some d, some m => ⟨0 ≤ i ∧ i < n ∧ (isAggD d = false → i.toNat * m < cs.length), rowLoad d m cs (i.toNat * m), []⟩
    | _, _ => .bad
  | _ => .bad := by
  unfold aIndex
  cases P.underlying T with
  | none => rfl
  | some d => cases d <;> rfl
@[simp] theorem aLoad_ref (T : TypeId) (nm sz row off : Nat) (ob : Nat → Option Ob) : aLoad P T (.ref nm sz row off) ob = match P.underlying T, tsize P T with
  | some d, some n => (match ob nm with
    | some o => ⟨o.k = .cells ∧ o.sz = sz ∧ row < o.rows.length ∧ rowFits d n sz off, rowLoad d n (o.rows.getD row []) off, []⟩
    | none => .bad)
  | _, _ => .bad := by
  unfold aLoad
  cases P.underlying T with
  | none => rfl
  | some d => cases tsize P T <;> rfl
@[simp] theorem aLoad_rp (T : TypeId) (sz : Nat) (rows : List (List PV)) (row off : Nat) (ob : Nat → Option Ob) : aLoad P T (.rp sz rows row off) ob = match P.underlying T, tsize P T with
  | some d, some n => ⟨row < rows.length ∧ rowFits d n sz off, rowLoad d n (rows.getD row []) off, []⟩
  | _, _ => .bad := by
  unfold aLoad
  cases P.underlying T with
  | none => rfl
  | some d => cases tsize P T <;> rfl
@[simp] theorem aStore_ref (T : TypeId) (nm sz row off : Nat) (q : PV) (ob : Nat → Option Ob) : aStore P T (.ref nm sz row off) q ob = match ob nm with
  | some o => ⟨o.k = .cells ∧ tsize P T = some q.cells.length ∧ o.sz = sz ∧ row < o.rows.length ∧ off + q.cells.length ≤ sz ∧ ∀ c ∈ q.cells, oneP c, .un, [(nm, some { o with rows := o.rows.set row (splice (o.rows.getD row []) off q.cells) })]⟩
  | none => .bad := rfl
@[simp] theorem aFieldAddr_ref (S : TypeId) (nm sz row off f : Nat) : aFieldAddr P S (.ref nm sz row off) f = match P.underlying S with
  | some (.struct fs) => match fs[f]? with
    | some fd => ⟨∃ n, tsize P fd.type = some (n + 1), .ref nm sz row (off + fd.offset), []⟩
    | none => .bad
  | _ => .bad := rfl
@[simp] theorem aFieldAddr_rp (S : TypeId) (sz : Nat) (rows : List (List PV)) (row off f : Nat) : aFieldAddr P S (.rp sz rows row off) f = match P.underlying S with
  | some (.struct fs) => match fs[f]? with
    | some fd => ⟨∃ n, tsize P fd.type = some (n + 1), .rp sz rows row (off + fd.offset), []⟩
    | none => .bad
  | _ => .bad := rfl
@[simp] theorem aField_agg (T : TypeId) (cs : List PV) (f : Nat) : aField P T (.agg cs) f = match P.underlying T with
  | some (.struct fs) => match fs[f]? with
    | some fd => match P.underlying fd.type, tsize P fd.type with
      | some d, some n => ⟨isAggD d = false → fd.offset < cs.length, rowLoad d n cs fd.offset, []⟩
      | _, _ => .bad
    | none => .bad
  | _ => .bad := by
  unfold aField
  cases P.underlying T with
  | none => rfl
  | some d =>
    cases d with
    | struct fs =>
      cases h : fs[f]? with
      | none => simp [h]
      | some fd => simp only [h]; cases P.underlying fd.type <;> cases tsize P fd.type <;> rfl
    | _ => rfl
@[simp] theorem aBin_int (op : BinOp) (t : TypeId) (ox oy : Operand) (k k' : IntKind) (x y : Int) (sc : R) : aBin P op t ox oy (.val (.int k x)) (.val (.int k' y)) sc = ⟨(intBin op k k' x y).ok, .val (intBin op k k' x y).v, []⟩ := rfl
@[simp] theorem aBin_str (op : BinOp) (t : TypeId) (ox oy : Operand) (x y : ByteArray) (sc : R) : aBin P op t ox oy (.val (.string x)) (.val (.string y)) sc = ⟨(strBin op x y).ok, .val (strBin op x y).v, []⟩ := rfl
@[simp] theorem aBin_beq (t : TypeId) (ox oy : Operand) (x y : Bool) (sc : R) : aBin P .eql t ox oy (.val (.bool x)) (.val (.bool y)) sc = ⟨isBoolT P t = true, .val (.bool (decide (x = y))), []⟩ := rfl
@[simp] theorem aBin_bne (t : TypeId) (ox oy : Operand) (x y : Bool) (sc : R) : aBin P .neq t ox oy (.val (.bool x)) (.val (.bool y)) sc = ⟨isBoolT P t = true, .val (.bool (decide (x ≠ y))), []⟩ := rfl
@[simp] theorem aBin_ieq (t u : TypeId) (ox oy : Operand) (x : Value) (sc : R) : aBin P .eql t ox oy (.val (.iface u x)) (.val .nilIface) sc = ⟨isIfaceT P t = true, .val (.bool false), []⟩ := rfl
@[simp] theorem aBin_ine (t u : TypeId) (ox oy : Operand) (x : Value) (sc : R) : aBin P .neq t ox oy (.val (.iface u x)) (.val .nilIface) sc = ⟨isIfaceT P t = true, .val (.bool true), []⟩ := rfl
@[simp] theorem aBin_neq0 (t : TypeId) (ox oy : Operand) (sc : R) : aBin P .eql t ox oy (.val .nilIface) (.val .nilIface) sc = ⟨isIfaceT P t = true ∧ (isLit ox || isLit oy) = true, .val (.bool true), []⟩ := rfl
@[simp] theorem aBin_nne0 (t : TypeId) (ox oy : Operand) (sc : R) : aBin P .neq t ox oy (.val .nilIface) (.val .nilIface) sc = ⟨isIfaceT P t = true ∧ (isLit ox || isLit oy) = true, .val (.bool false), []⟩ := rfl
@[simp] theorem aMin_int (k k' : IntKind) (x y : Int) : aMin (.val (.int k x)) (.val (.int k' y)) = ⟨True, .val (.int k (if y < x then y else x)), []⟩ := rfl
@[simp] theorem aMax_int (k k' : IntKind) (x y : Int) : aMax (.val (.int k x)) (.val (.int k' y)) = ⟨True, .val (.int k (if x < y then y else x)), []⟩ := rfl
@[simp] theorem aEqB_val (op : BinOp) (t : TypeId) (v : Value) (q : PV) (rest : R) : aEqB P op t (.val v) q rest = rest := by
  unfold aEqB slLen
  cases P.underlying t with
  | none => rfl
  | some d => cases d <;> rfl
@[simp] theorem aEqB_agg (op : BinOp) (t : TypeId) (cs ds : List PV) (rest : R) : aEqB P op t (.agg cs) (.agg ds) rest = match P.underlying t with
  | some (.array n e) => (match op with
    | .eql => (match eqIt P e (List.range n) cs ds with
      | some (h, b) => ⟨h ∧ tsize P e = some 1 ∧ P.eqGuardType P.depth t = false, .val (.bool b), []⟩
      | none => rest)
    | .neq => (match eqIt P e (List.range n) cs ds with
      | some (h, b) => ⟨h ∧ tsize P e = some 1 ∧ P.eqGuardType P.depth t = false, .val (.bool (!b)), []⟩
      | none => rest)
    | _ => rest)
  | _ => rest := by
  unfold aEqB slLen
  cases P.underlying t with
  | none => rfl
  | some d => cases d <;> cases op <;> rfl
@[simp] theorem aEqB_rd (t : TypeId) (op : BinOp) (sz : Nat) (rows : List (List PV)) (rest : R) : aEqB P op t (.rd sz rows) (.val (.slice none 0 0)) rest = match P.underlying t with
  | some (.slice _) => (match op with
    | .eql => ⟨True, nilB rows.length, []⟩
    | .neq => ⟨True, nnilB rows.length, []⟩
    | _ => rest)
  | _ => rest := by
  unfold aEqB slLen
  cases P.underlying t with
  | none => rfl
  | some d => cases d <;> cases op <;> rfl
@[simp] theorem aEqB_sl (t : TypeId) (op : BinOp) (nm sz off len : Nat) (rest : R) : aEqB P op t (.sl nm sz off len) (.val (.slice none 0 0)) rest = match P.underlying t with
  | some (.slice _) => (match op with
    | .eql => ⟨True, nilB len, []⟩
    | .neq => ⟨True, nnilB len, []⟩
    | _ => rest)
  | _ => rest := by
  unfold aEqB slLen
  cases P.underlying t with
  | none => rfl
  | some d => cases d <;> cases op <;> rfl
@[simp] theorem aEqB_nl (t : TypeId) (op : BinOp) (rest : R) : aEqB P op t .nl (.val (.slice none 0 0)) rest = match P.underlying t with
  | some (.slice _) => (match op with
    | .eql => ⟨True, nilB 0, []⟩
    | .neq => ⟨True, nnilB 0, []⟩
    | _ => rest)
  | _ => rest := by
  unfold aEqB slLen
  cases P.underlying t with
  | none => rfl
  | some d => cases d <;> cases op <;> rfl
@[simp] theorem aEqA_val (op : BinOp) (t : TypeId) (v : Value) (q : PV) (rest : R) : aEqA P op t (.val v) q rest = rest := by cases op <;> rfl
@[simp] theorem aEqA_eql (t : TypeId) (cs ds : List PV) (rest : R) : aEqA P .eql t (.agg cs) (.agg ds) rest = match eqFs P (P.fieldsOf t).toList cs ds with
    | some (h, b) => ⟨h ∧ P.underlying t = some (.struct (P.fieldsOf t)) ∧ P.stoodInHeld t = false ∧ P.eqGuardType P.depth t = false, .val (.bool b), []⟩
    | none => rest := rfl
@[simp] theorem aEqA_neq (t : TypeId) (cs ds : List PV) (rest : R) : aEqA P .neq t (.agg cs) (.agg ds) rest = match eqFs P (P.fieldsOf t).toList cs ds with
    | some (h, b) => ⟨h ∧ P.underlying t = some (.struct (P.fieldsOf t)) ∧ P.stoodInHeld t = false ∧ P.eqGuardType P.depth t = false, .val (.bool (!b)), []⟩
    | none => rest := rfl
@[simp] theorem eqC_int (t : TypeId) (k k' : IntKind) (a b : Int) : eqC P t (.val (.int k a)) (.val (.int k' b)) = match P.underlying t with
    | some (.int _) => some (k = k', decide (a = b))
    | _ => none := by
  unfold eqC
  cases P.underlying t with
  | none => rfl
  | some d => cases d <;> rfl
@[simp] theorem eqC_str (t : TypeId) (a b : ByteArray) : eqC P t (.val (.string a)) (.val (.string b)) = match P.underlying t with
    | some .string => some (True, decide (a = b))
    | _ => none := by
  unfold eqC
  cases P.underlying t with
  | none => rfl
  | some d => cases d <;> rfl
@[simp] theorem eqC_bool (t : TypeId) (a b : Bool) : eqC P t (.val (.bool a)) (.val (.bool b)) = match P.underlying t with
    | some .bool => some (True, decide (a = b))
    | _ => none := by
  unfold eqC
  cases P.underlying t with
  | none => rfl
  | some d => cases d <;> rfl
attribute [simp] eqFs eqIt Program.fieldsOf List.range_succ nilB nnilB
@[simp] theorem aUn_not (b : Bool) (sc : R) : aUn .not (.val (.bool b)) sc = ⟨True, .val (.bool (!b)), []⟩ := rfl
@[simp] theorem aUn_neg (k : IntKind) (n : Int) (sc : R) : aUn .neg (.val (.int k n)) sc = ⟨True, .val (.int k (k.wrap (0 - n))), []⟩ := rfl
@[simp] theorem aConv_int (s d : TypeId) (k : IntKind) (n : Int) (rest : R) : aConv P s d (.val (.int k n)) rest = match P.underlying d with
  | some (.int kd) => ⟨(P.underlying s).isSome = true, .val (.int kd (kd.wrap n)), []⟩
  | _ => rest := by
  unfold aConv
  cases P.underlying d with
  | none => rfl
  | some x => cases x <;> rfl
@[simp] theorem aConv_str (s d : TypeId) (n : ByteArray) (rest : R) : aConv P s d (.val (.string n)) rest = match P.underlying d with
  | some .string => ⟨(P.underlying s).isSome = true, .val (.string n), []⟩
  | _ => rest := by
  unfold aConv
  cases P.underlying d with
  | none => rfl
  | some x => cases x <;> rfl
@[simp] theorem aConv_rd (s d : TypeId) (sz : Nat) (rows : List (List PV)) (rest : R) : aConv P s d (.rd sz rows) rest = rest := rfl
@[simp] theorem aConv_sl (s d : TypeId) (nm sz off len : Nat) (rest : R) : aConv P s d (.sl nm sz off len) rest = rest := rfl
@[simp] theorem aConv_nil (s d : TypeId) (rest : R) : aConv P s d (.val (.slice none 0 0)) rest = rest := rfl
@[simp] theorem aConvert_str (s d : TypeId) (x : ByteArray) (ob : Nat → Option Ob) (sc : R) : aConvert P s d (.val (.string x)) ob sc = match P.underlying s, P.underlying d with
  | some .string, some (.slice e) => ⟨P.underlying e = some (.int .u8), .rd 1 (brow x), []⟩
  | some (.slice e), some .string => .bad
  | _, _ => sc := by
  unfold aConvert
  cases P.underlying s with
  | none => rfl
  | some y =>
    cases P.underlying d with
    | none => cases y <;> rfl
    | some z => cases y <;> cases z <;> rfl
@[simp] theorem aConvert_sl (s d : TypeId) (nm sz off len : Nat) (ob : Nat → Option Ob) (sc : R) : aConvert P s d (.sl nm sz off len) ob sc = match P.underlying s, P.underlying d with
  | some (.slice e), some .string => (match lowS ob (.sl nm sz off len) with
    | some rows => match numsOf rows with
      | some xs => ⟨P.underlying e = some (.int .u8) ∧ lowOk 1 ob (.sl nm sz off len), .val (.string (strOfNums xs)), []⟩
      | none => .bad
    | none => .bad)
  | _, _ => sc := by
  unfold aConvert
  cases P.underlying s with
  | none => rfl
  | some y =>
    cases P.underlying d with
    | none => cases y <;> rfl
    | some z => cases y <;> cases z <;> rfl
@[simp] theorem aConvert_rd (s d : TypeId) (sz : Nat) (rows : List (List PV)) (ob : Nat → Option Ob) (sc : R) : aConvert P s d (.rd sz rows) ob sc = match P.underlying s, P.underlying d with
  | some (.slice e), some .string => (match numsOf rows with
    | some xs => ⟨P.underlying e = some (.int .u8) ∧ lowOk 1 ob (.rd sz rows), .val (.string (strOfNums xs)), []⟩
    | none => .bad)
  | _, _ => sc := by
  unfold aConvert
  cases P.underlying s with
  | none => rfl
  | some y =>
    cases P.underlying d with
    | none => cases y <;> rfl
    | some z => cases y <;> cases z <;> rfl
/-- What has no names is the same to everybody. -/
def flat0 : PV → Prop
  | .val _ => True
  | .rd _ _ => True
  | .rp _ _ _ _ => True
  | .un => True
  | .nl => True
  | .anyB => True
  | .any1 => True
  | .clo _ cs => cs.all nlB = true
  | .bnd _ cs => cs.all nlB = true
  | _ => False
def flat1 : PV → Prop
  | .agg cs => ∀ c ∈ cs, flat0 c
  | .clo _ cs => ∀ c ∈ cs, flat0 c
  | .bnd _ cs => ∀ c ∈ cs, flat0 c
  | p => flat0 p
def flat2 : PV → Prop
  | .tup cs => ∀ c ∈ cs, flat1 c
  | p => flat1 p
theorem map_same {f : PV → PV} {l : List PV} (h : ∀ c ∈ l, f c = c) : l.map f = l := by
  induction l with
  | nil => rfl
  | cons x r ih => rw [List.map_cons, h x List.mem_cons_self, ih (fun c hc => h c (List.mem_cons_of_mem _ hc))]
theorem flat0.rn {p : PV} {π : Nat → Option Nat} (h : flat0 p) : rn0 π p = p := by
  cases p with
  | clo f cs => exact if_pos h
  | bnd f cs => exact rnB_nl h
  | _ => first | rfl | exact h.elim
theorem flat0.of_nlB {p : PV} (h : nlB p = true) : flat0 p := by cases p <;> first | trivial | (simp [nlB] at h)
theorem flat0.one {p : PV} (h : flat0 p) : flat1 p := by
  cases p with
  | clo f cs => exact fun c hc => .of_nlB (List.all_eq_true.1 h c hc)
  | bnd f cs => exact fun c hc => .of_nlB (List.all_eq_true.1 h c hc)
  | _ => first | exact h | exact h.elim
theorem flat1.rn {p : PV} {π : Nat → Option Nat} (h : flat1 p) : rn1 π p = p := by
  cases p with
  | agg cs => rw [rn1, map_same fun c hc => (h c hc).rn]
  | clo f cs => rw [rn1, map_same fun c hc => (h c hc).rn]
  | bnd f cs => rw [rn1, map_same fun c hc => (h c hc).rn]
  | _ => first | rfl | exact h.elim
theorem flat2.rn {p : PV} {π : Nat → Option Nat} (h : flat2 p) : rn2 π p = p := by
  cases p with
  | tup cs => rw [rn2, map_same fun c hc => (h c hc).rn]
  | clo f cs => rw [rn2, map_same fun c hc => (show flat1 c from (h c hc).one).rn]
  | bnd f cs => rw [rn2, map_same fun c hc => (show flat1 c from (h c hc).one).rn]
  | agg cs => exact flat1.rn (p := .agg cs) h
  | _ => first | rfl | exact h.elim
theorem flat0.low {p : PV} {obs : List (Nat × Ob)} {B : List Nat} (h : flat0 p) : low0 obs B p = p := by cases p <;> first | rfl | exact h.elim
theorem flat1.low {p : PV} {obs : List (Nat × Ob)} {B : List Nat} (h : flat1 p) : low1 obs B p = p := by
  cases p with
  | agg cs => rw [low1, map_same fun c hc => (h c hc).low]
  | clo f cs => rw [low1, map_same fun c hc => (h c hc).low]
  | bnd f cs => rw [low1, map_same fun c hc => (h c hc).low]
  | _ => first | rfl | exact h.elim
/-- A call that takes and gives no named block. -/
theorem callK.plain {g : FuncId} {xs : List PV} {st : St} {Qp : List PanicEntry → St → Prop} {K : KS} {r : PV} (h : CallOk P g xs [] r []) (hx : ∀ x ∈ xs, flat1 x) (hr : flat2 r) (hK : K r st.obs (st.new + 8)) : callK P g xs st Qp K := by
  refine .inl ⟨[], [], xs, [], r, [], h, ⟨?_, fun x hx' => ?_, by simp, by simp, fun j ob h => (by cases h), fun n j h => (by simp [fwdN] at h), fun n j => by simp [fwdN, backN], .inl rfl, fun j ob h => (by cases h)⟩, by simp [preU, postU, uOk], ?_⟩
  · exact map_same fun x hx' => by
      rw [(hx x hx').low]
      have := hx x hx'
      exact flat2.rn (by cases x <;> first | exact this | exact this.elim)
  · have := hx x hx'
    cases x with
    | agg cs => exact fun c hc => (by have := this c hc; cases c <;> first | exact trivial | exact this.elim)
    | clo f cs => exact fun c hc => (by have := this c hc; cases c <;> first | exact trivial | exact this.elim)
    | bnd f cs => exact fun c hc => (by have := this c hc; cases c <;> first | exact trivial | exact this.elim)
    | _ => first | exact trivial | exact this.elim
  · rw [hr.rn]; exact hK
/-- A call that is lent named blocks, and gives none. -/
theorem callK.lent {g : FuncId} {xs args : List PV} {st : St} {Qp : List PanicEntry → St → Prop} {K : KS} {r : PV} (B : List Nat) (h : CallOk P g args [] r []) (ha : xs.map (low1 st.obs B) = args) (hx : ∀ x ∈ args, flat1 x) (hl : ∀ x ∈ xs, lendOk1 st.obs B x)
    (hnf : ∀ n ∈ B, ∃ o, lookO st.obs n = some o ∧ o.k = .cells ∧ nfRows o.rows) (hr : flat2 r) (hno : noRd2 r) (hK : K r st.obs (st.new + 8)) : callK P g xs st Qp K := by
  refine .inl ⟨B, [], args, [], r, [], h, ⟨?_, hl, hnf, fun n _ => by simp [fwdN], fun j ob h => (by cases h), fun n j h => (by simp [fwdN] at h), fun n j => by simp [fwdN, backN], .inr ⟨hno, fun j ob h => (by cases h)⟩, fun j ob h => (by cases h)⟩, by simp [preU, postU, uOk], ?_⟩
  · rw [← ha]
    exact List.map_congr_left fun x hx' => by
      have := hx (low1 st.obs B x) (by rw [← ha]; exact List.mem_map_of_mem hx')
      exact flat2.rn (by generalize low1 st.obs B x = y at this; cases y <;> first | exact this | exact this.elim)
  · rw [hr.rn]; exact hK
/-- A call that is handed blocks, lent others, and gives some. -/
theorem callK.own {g : FuncId} {xs args : List PV} {st : St} {Qp : List PanicEntry → St → Prop} {K : KS} {r : PV} {pre post : List (Nat × Ob)} (B : List Nat) (π : List (Nat × Nat)) (h : CallOk P g args pre r post) (ha : xs.map (fun x => rn2 (fwdN π) (low1 st.obs B x)) = args)
    (hl : ∀ x ∈ xs, lendOk1 st.obs B x) (hnf : ∀ n ∈ B, ∃ o, lookO st.obs n = some o ∧ o.k = .cells ∧ nfRows o.rows) (hap : ∀ n ∈ B, fwdN π n = none) (hpi : piOk π) (hpre : preAll π st.obs pre) (hsm : smallAll st.new pre π) (hpost : postAll π st.new post)
    (hrd : B = [] ∨ noRd2 r ∧ ∀ j ob, lookO post j = some ob → noRdRows ob.rows) (hu : uOk (preU π ++ postU π st.new post) (st.new + 8)) (hK : K (rn2 (outN π st.new) r) (applyU st.obs (preU π ++ postU π st.new post)) (st.new + 8)) : callK P g xs st Qp K :=
  .inl ⟨B, π, args, pre, r, post, h, ⟨ha, hl, hnf, hap, hpre.at, fun n j hj => hsm.at n j ((hpi.mem.1 n j).1 hj), hpi.inj, hrd, hpost.at⟩, hu, hK⟩
/-- A call that panics. -/
theorem callK.pan {g : FuncId} {xs : List PV} {st : St} {Qp : List PanicEntry → St → Prop} {K : KS} {ch : List PanicEntry} (h : CallPan P g xs [] ch []) (hx : ∀ x ∈ xs, flat1 x) (hK : Qp ch ⟨st.n, st.regs, st.obs, st.new + 8⟩) : callK P g xs st Qp K := by
  refine .inr (.inl ⟨[], [], xs, [], ch, [], h, ⟨?_, fun x hx' => ?_, by simp, by simp, fun j ob h => (by cases h), fun n j h => (by simp [fwdN] at h), fun n j => by simp [fwdN, backN], .inl rfl, fun j ob h => (by cases h)⟩, by simp [preU, postU, uOk], hK⟩)
  · exact map_same fun x hx' => by
      rw [(hx x hx').low]
      have := hx x hx'
      exact flat2.rn (by cases x <;> first | exact this | exact this.elim)
  · have := hx x hx'
    cases x with
    | agg cs => exact fun c hc => (by have := this c hc; cases c <;> first | exact trivial | exact this.elim)
    | clo f cs => exact fun c hc => (by have := this c hc; cases c <;> first | exact trivial | exact this.elim)
    | bnd f cs => exact fun c hc => (by have := this c hc; cases c <;> first | exact trivial | exact this.elim)
    | _ => first | exact trivial | exact this.elim
/-- What is asked at the end of a function that is walked where it is called. -/
def inlQ (P : Program) (res : List ResultVar) (n : Nat) (regs : List (Nat × PV)) (Qp : List PanicEntry → St → Prop) (K : KS) : Exit → St → Prop := fun e s => match e with
  | .normal => resOf P s res fun l => K (resV l) s.obs s.new
  | .ret => resOf P s res fun l => K (resV l) s.obs s.new
  | .panic ch => Qp ch ⟨n, regs, s.obs, s.new⟩
  | _ => False
/-- A call, walked where it stands. -/
theorem callK.walk {g : FuncId} {xs : List PV} {st : St} {Qp : List PanicEntry → St → Prop} {K : KS} {fn : Func} {c : Code} {n : Nat} {res : List ResultVar} (hf : P.funcs[g]? = some fn) (hb : fn.body = some c) (hent : entersB P g = true) (hn : fn.ntmps = n) (hres : fn.results.toList = res) (hlen : xs.length ≤ n)
    (h : exec (.fn st.new) P c ⟨n, parRegs 0 xs, st.obs, st.new⟩ (inlQ P res st.n st.regs Qp K)) : callK P g xs st Qp K := by
  subst hn; subst hres
  refine .inr (.inr ⟨fn, c, hf, hb, hent, hlen, WPg.mono (exec_sound _ _ _ h) ?_⟩)
  intro e s hq
  cases e <;> exact hq
/-- A round. -/
theorem yieldK.walk {nm : Nat} {args : List PV} {st : St} {K : KS} {r : RecI} (h1 : lookO st.obs nm = some ⟨0, 0, [], .loop r⟩) (h3 : r.st = .ready) (h4 : r.ps.size = args.length) (h5 : ∀ t ∈ r.ps.toList, t < r.n) (h6 : nm < st.new)
    (h : exec (.rd st.new) P r.asg ⟨r.n, argRegs r.ps.toList args r.regs, st.obs, st.new⟩ fun e s => e = .normal ∧ nm < s.new ∧ lookO s.obs nm = some ⟨0, 0, [], .loop r⟩ ∧
      exec (.rd st.new) P r.body ⟨s.n, s.regs, setRec s.obs nm { r with st := .busy }, s.new⟩ fun e s' => nm < s'.new ∧ roundK nm K e s') : yieldK P nm args st K :=
  ⟨_, r, h1, rfl, h3, h4, h5, h6, WPg.mono (exec_sound _ _ _ h) fun e s ⟨g1, g2, g3, g4⟩ => ⟨g1, _, r, g3, rfl, h3, g2, exec_sound _ _ _ g4⟩⟩
theorem roundK.mk {nm : Nat} {K : KS} {e : Exit} {s : St} {r : RecI} (h : lookO s.obs nm = some ⟨0, 0, [], .loop r⟩) (h' : match e with
  | .normal => K (.val (.bool true)) (setRec s.obs nm { r with st := .ready, pend := none }) s.new
  | .ret => K (.val (.bool false)) (setRec s.obs nm { r with st := .done, pend := some .ret }) s.new
  | .exit i => K (.val (.bool false)) (setRec s.obs nm { r with st := .done, pend := some (.exit i) }) s.new
  | _ => False) : roundK nm K e s := ⟨_, r, h, rfl, h'⟩
/-- A loop over a function. -/
theorem WPg.rangeX {J : Jd} (hJ : ∀ r, J.ok r → r = none) {g : Operand} {ps : Array Tmp} {asg body : Code} {st : St} {Q : Exit → St → Prop} {f : FuncId} {caps : List PV} {fn : Func} {c : Code} {n : Nat} (hg : evP st.regs g = .clo f caps)
    (hfn : P.funcs[f]? = some fn) (hb : fn.body = some c) (hent : entersB P f = true) (hn : fn.ntmps = n) (hlen : caps.length + 1 ≤ n) (hres : fn.results = #[])
    (h : ∀ tm fid dfs, exec (.fn (st.new + 8)) P c ⟨n, parRegs 0 (.yld st.new :: caps), (st.new, ⟨0, 0, [], .loop ⟨st.n, st.regs, tm, fid, ps, asg, body, dfs, .ready, none⟩⟩) :: st.obs, st.new + 8⟩ fun e s => match e with
      | .normal => rangeQ st.new st.n tm Q s
      | .ret => rangeQ st.new st.n tm Q s
      | _ => False) : WPg J P (.rangeFunc g ps asg body) st Q := by
  subst hn
  exact .range hJ hg hfn hb hent hlen hres fun tm fid dfs => WPg.mono (exec_sound _ _ _ (h tm fid dfs)) fun e s hq => by cases e <;> exact hq
theorem rangeQ.mk {nm n : Nat} {tm : Array Value} {Q : Exit → St → Prop} {s : St} {r : RecI} (h : lookO s.obs nm = some ⟨0, 0, [], .loop r⟩) (h1 : r.tm = tm) (h2 : r.n = n) (h3 : r.st ≠ .busy) (h' : match r.pend with
  | none => Q .normal ⟨n, r.regs, dropO s.obs nm, s.new⟩
  | some .ret => Q .ret ⟨n, r.regs, dropO s.obs nm, s.new⟩
  | some (.exit i) => Q (.exit i) ⟨n, r.regs, dropO s.obs nm, s.new⟩
  | _ => False) : rangeQ nm n tm Q s := ⟨_, r, h, rfl, h1, h2, h3, h'⟩
/-- The same in a region whose order is drawn. -/
theorem callT.plain {g : FuncId} {xs : List PV} {st : St} {K : Tr → Prop} {r : PV} (h : CallOk P g xs [] r []) (hx : ∀ x ∈ xs, flat1 x) (hr : flat2 r) (hK : K ⟨r, [], []⟩) : callT P g xs st K := by
  refine ⟨[], [], xs, [], r, [], h, ⟨?_, fun x hx' => ?_, by simp, by simp, fun j ob h => (by cases h), fun n j h => (by simp [fwdN] at h), fun n j => by simp [fwdN, backN], .inl rfl, fun j ob h => (by cases h)⟩, by simp [preU, postU, uOk], ?_⟩
  · exact map_same fun x hx' => by
      rw [(hx x hx').low]
      have := hx x hx'
      exact flat2.rn (by cases x <;> first | exact this | exact this.elim)
  · have := hx x hx'
    cases x with
    | agg cs => exact fun c hc => (by have := this c hc; cases c <;> first | exact trivial | exact this.elim)
    | clo f cs => exact fun c hc => (by have := this c hc; cases c <;> first | exact trivial | exact this.elim)
    | bnd f cs => exact fun c hc => (by have := this c hc; cases c <;> first | exact trivial | exact this.elim)
    | _ => first | exact trivial | exact this.elim
  · rw [hr.rn]; exact hK
end
section
variable {P : Program}
@[simp ↓] theorem exec_skip (J : Jd) (n : Nat) (regs : List (Nat × PV)) (obs : List (Nat × Ob)) (new : Nat) (Q : Exit → St → Prop) : exec J P .skip ⟨n, regs, obs, new⟩ Q = Q .normal ⟨n, regs, obs, new⟩ := rfl
@[simp ↓] theorem exec_region (J : Jd) (id : Nat) (l : List Oper) (n : Nat) (regs : List (Nat × PV)) (obs : List (Nat × Ob)) (new : Nat) (Q : Exit → St → Prop) : exec J P (.region id l.toArray false) ⟨n, regs, obs, new⟩ Q = execOps P l l ⟨n, regs, obs, new⟩ (fun ch => Q (.panic ch)) (Q .normal) := by simp [exec]
@[simp ↓] theorem exec_draw (J : Jd) (id : Nat) (l : List Oper) (n : Nat) (regs : List (Nat × PV)) (obs : List (Nat × Ob)) (new : Nat) (Q : Exit → St → Prop) : exec J P (.region id l.toArray true) ⟨n, regs, obs, new⟩ Q = (P.follows .mixedOrders = true ∧ execT P l l ⟨n, regs, obs, new⟩ [] fun st' tr => drawOk l.toArray new tr.reverse = true ∧ Q .normal st') := by simp [exec, drawK]
@[simp ↓] theorem exec_seq (J : Jd) (x y : Code) (n : Nat) (regs : List (Nat × PV)) (obs : List (Nat × Ob)) (new : Nat) (Q : Exit → St → Prop) : exec J P (.seq x y) ⟨n, regs, obs, new⟩ Q = exec J P x ⟨n, regs, obs, new⟩ fun e s => match e with
    | .normal => exec J P y s Q
    | e => Q e s := rfl
@[simp ↓] theorem exec_cond (J : Jd) (c : Operand) (x y : Code) (n : Nat) (regs : List (Nat × PV)) (obs : List (Nat × Ob)) (new : Nat) (Q : Exit → St → Prop) : exec J P (.cond c x y) ⟨n, regs, obs, new⟩ Q = condK (evP regs c) (exec J P x ⟨n, regs, obs, new⟩ Q) (exec J P y ⟨n, regs, obs, new⟩ Q) := rfl
@[simp ↓] theorem exec_block (J : Jd) (id : Nat) (b : Code) (n : Nat) (regs : List (Nat × PV)) (obs : List (Nat × Ob)) (new : Nat) (Q : Exit → St → Prop) : exec J P (.block id b) ⟨n, regs, obs, new⟩ Q = exec J P b ⟨n, regs, obs, new⟩ fun e s => match e with
    | .exit i => if i = id then Q .normal s else Q (.exit i) s
    | e => Q e s := rfl
@[simp ↓] theorem exec_exit (J : Jd) (id : Nat) (n : Nat) (regs : List (Nat × PV)) (obs : List (Nat × Ob)) (new : Nat) (Q : Exit → St → Prop) : exec J P (.exit id) ⟨n, regs, obs, new⟩ Q = Q (.exit id) ⟨n, regs, obs, new⟩ := rfl
@[simp ↓] theorem exec_ret (J : Jd) (n : Nat) (regs : List (Nat × PV)) (obs : List (Nat × Ob)) (new : Nat) (Q : Exit → St → Prop) : exec J P .ret ⟨n, regs, obs, new⟩ Q = Q .ret ⟨n, regs, obs, new⟩ := rfl
@[simp ↓] theorem exec_loop (J : Jd) (b : Code) (n : Nat) (regs : List (Nat × PV)) (obs : List (Nat × Ob)) (new : Nat) (Q : Exit → St → Prop) : exec J P (.loop b) ⟨n, regs, obs, new⟩ Q = WPg J P (.loop b) ⟨n, regs, obs, new⟩ Q := rfl
@[simp ↓] theorem exec_range (J : Jd) (g : Operand) (ps : Array Tmp) (x b : Code) (n : Nat) (regs : List (Nat × PV)) (obs : List (Nat × Ob)) (new : Nat) (Q : Exit → St → Prop) : exec J P (.rangeFunc g ps x b) ⟨n, regs, obs, new⟩ Q = WPg J P (.rangeFunc g ps x b) ⟨n, regs, obs, new⟩ Q := rfl
@[simp ↓] theorem execOps_nil (all : List Oper) (st : St) (Qp : List PanicEntry → St → Prop) (K : St → Prop) : execOps P all [] st Qp K = K st := rfl
@[simp ↓] theorem execOps_cons (all : List Oper) (dst : Option Tmp) (op : Op) (ty : TypeId) (pos : String) (af : Array Edge) (rest : List Oper) (n : Nat) (regs : List (Nat × PV)) (obs : List (Nat × Ob)) (new : Nat) (Qp : List PanicEntry → St → Prop) (K : St → Prop) :
    execOps P all (⟨dst, op, ty, pos, af, none⟩ :: rest) ⟨n, regs, obs, new⟩ Qp K = (dstIn dst n ∧ stepK P ⟨dst, op, ty, pos, af, none⟩ ⟨n, regs, obs, new⟩ Qp fun v obs' new' => execOps P all rest (nextS ⟨dst, op, ty, pos, af, none⟩ ⟨n, regs, obs, new⟩ v obs' new') Qp K) := by cases all <;> rfl
@[simp ↓] theorem execOps_grd (all : List Oper) (dst : Option Tmp) (op : Op) (ty : TypeId) (pos : String) (af : Array Edge) (j : Nat) (want : Bool) (rest : List Oper) (n : Nat) (regs : List (Nat × PV)) (obs : List (Nat × Ob)) (new : Nat) (Qp : List PanicEntry → St → Prop) (K : St → Prop) :
    execOps P all (⟨dst, op, ty, pos, af, some (j, want)⟩ :: rest) ⟨n, regs, obs, new⟩ Qp K = (dstIn dst n ∧ if softOp op = true then softK (guardE (guardV all ⟨n, regs, obs, new⟩ j) want) (fun g => act P ⟨dst, op, ty, pos, af, some (j, want)⟩ (evS g regs) (lookO obs) new) (fun v => execOps P all rest (nextS ⟨dst, op, ty, pos, af, some (j, want)⟩ ⟨n, regs, obs, new⟩ v obs (new + 8)) Qp K)
      else guardK (strip (guardV all ⟨n, regs, obs, new⟩ j)) want (stepK P ⟨dst, op, ty, pos, af, some (j, want)⟩ ⟨n, regs, obs, new⟩ Qp fun v obs' new' => execOps P all rest (nextS ⟨dst, op, ty, pos, af, some (j, want)⟩ ⟨n, regs, obs, new⟩ v obs' new') Qp K)
      (execOps P all rest (nextS ⟨dst, op, ty, pos, af, some (j, want)⟩ ⟨n, regs, obs, new⟩ (.val undef) obs new) Qp K)) := by cases all <;> rfl
@[simp ↓] theorem execT_nil (all : List Oper) (st : St) (tr : List Tr) (K : St → List Tr → Prop) : execT P all [] st tr K = K st tr := rfl
@[simp ↓] theorem execT_cons (all : List Oper) (dst : Option Tmp) (op : Op) (ty : TypeId) (pos : String) (af : Array Edge) (rest : List Oper) (n : Nat) (regs : List (Nat × PV)) (obs : List (Nat × Ob)) (new : Nat) (tr : List Tr) (K : St → List Tr → Prop) :
    execT P all (⟨dst, op, ty, pos, af, none⟩ :: rest) ⟨n, regs, obs, new⟩ tr K = (dstIn dst n ∧ stepT P ⟨dst, op, ty, pos, af, none⟩ ⟨n, regs, obs, new⟩ fun x => execT P all rest (nextSt ⟨dst, op, ty, pos, af, none⟩ ⟨n, regs, obs, new⟩ x.v x.u) (x :: tr) K) := by cases all <;> rfl
@[simp ↓] theorem execT_grd (all : List Oper) (dst : Option Tmp) (op : Op) (ty : TypeId) (pos : String) (af : Array Edge) (j : Nat) (want : Bool) (rest : List Oper) (n : Nat) (regs : List (Nat × PV)) (obs : List (Nat × Ob)) (new : Nat) (tr : List Tr) (K : St → List Tr → Prop) :
    execT P all (⟨dst, op, ty, pos, af, some (j, want)⟩ :: rest) ⟨n, regs, obs, new⟩ tr K = (dstIn dst n ∧ if softOp op = true then softT (guardE (guardV all ⟨n, regs, obs, new⟩ j) want) (fun g => act P ⟨dst, op, ty, pos, af, some (j, want)⟩ (evS g regs) (lookO obs) new) (fun g => touchS g regs op.operands.toList) (fun x => execT P all rest (nextSt ⟨dst, op, ty, pos, af, some (j, want)⟩ ⟨n, regs, obs, new⟩ x.v x.u) (x :: tr) K)
      else guardK (strip (guardV all ⟨n, regs, obs, new⟩ j)) want (stepT P ⟨dst, op, ty, pos, af, some (j, want)⟩ ⟨n, regs, obs, new⟩ fun x => execT P all rest (nextSt ⟨dst, op, ty, pos, af, some (j, want)⟩ ⟨n, regs, obs, new⟩ x.v x.u) (x :: tr) K)
      (execT P all rest (nextSt ⟨dst, op, ty, pos, af, some (j, want)⟩ ⟨n, regs, obs, new⟩ (.val undef) []) (⟨.val undef, [], []⟩ :: tr) K)) := by cases all <;> rfl
attribute [simp] execOps_cons execOps_grd execT_cons execT_grd softOp
@[simp] theorem softK_some (g : Bool) (r : Bool → R) (Z : PV → Prop) : softK (some g) r Z ↔ (g = true → (r g).ok ∧ (r g).u = []) ∧ Z (.cnd g (r g).v) := Iff.rfl
@[simp] theorem softT_some (g : Bool) (r : Bool → R) (T : Bool → List Nat) (Z : Tr → Prop) : softT (some g) r T Z ↔ (g = true → (r g).ok ∧ (r g).u = []) ∧ Z ⟨.cnd g (r g).v, [], T g⟩ := Iff.rfl
@[congr] theorem softK_congr {g g' : Option Bool} {r r' : Bool → R} {Z : PV → Prop} (h : g = g') (h' : r = r') : softK g r Z = softK g' r' Z := by rw [h, h']
@[congr] theorem softT_congr {g g' : Option Bool} {r r' : Bool → R} {T : Bool → List Nat} {Z : Tr → Prop} (h : g = g') (h' : r = r') : softT g r T Z = softT g' r' T Z := by rw [h, h']
@[simp] theorem guardE_val (b w : Bool) : guardE (.val (.bool b)) w = some (b == w) := rfl
@[simp] theorem guardE_un (w : Bool) : guardE (.val undef) w = some false := rfl
@[simp] theorem guardE_cnd (b t w : Bool) : guardE (.cnd b (.val (.bool t))) w = some (b && (t == w)) := rfl
@[simp] theorem guardE_cndF (p : PV) (w : Bool) : guardE (.cnd false p) w = some false := by
  unfold guardE
  split <;> simp_all
@[simp] theorem guardE_cnd2 (b c t w : Bool) : guardE (.cnd b (.cnd c (.val (.bool t)))) w = some (b && (c && (t == w))) := rfl
@[simp] theorem strip_val (v : Value) : strip (.val v) = .val v := rfl
@[simp] theorem strip_agg (v : List PV) : strip (.agg v) = .agg v := rfl
@[simp] theorem strip_tupP (v : List PV) : strip (.tup v) = .tup v := rfl
@[simp] theorem strip_rd (sz : Nat) (v : List (List PV)) : strip (.rd sz v) = .rd sz v := rfl
@[simp] theorem strip_rp (sz : Nat) (v : List (List PV)) (a b : Nat) : strip (.rp sz v a b) = .rp sz v a b := rfl
@[simp] theorem strip_ref (a b c d : Nat) : strip (.ref a b c d) = .ref a b c d := rfl
@[simp] theorem strip_sl (a b c d : Nat) : strip (.sl a b c d) = .sl a b c d := rfl
@[simp] theorem strip_clo (f : FuncId) (v : List PV) : strip (.clo f v) = .clo f v := rfl
@[simp] theorem strip_bnd (f : FuncId) (v : List PV) : strip (.bnd f v) = .bnd f v := rfl
@[simp] theorem strip_yld (a : Nat) : strip (.yld a) = .yld a := rfl
@[simp] theorem strip_mp (a : Nat) : strip (.mp a) = .mp a := rfl
@[simp] theorem strip_nl : strip .nl = .nl := rfl
@[simp] theorem strip_anyB : strip .anyB = .anyB := rfl
@[simp] theorem strip_any1 : strip .any1 = .any1 := rfl
@[simp] theorem strip_un : strip .un = .un := rfl
@[simp] theorem strip_cndT (p : PV) : strip (.cnd true p) = p := rfl
@[simp] theorem strip_cndF (p : PV) : strip (.cnd false p) = .val undef := rfl
@[simp] theorem unc_val (g : Bool) (v : Value) : unc g (.val v) = .val v := rfl
@[simp] theorem unc_agg (g : Bool) (v : List PV) : unc g (.agg v) = .agg v := rfl
@[simp] theorem unc_tup (g : Bool) (v : List PV) : unc g (.tup v) = .tup v := rfl
@[simp] theorem unc_rd (g : Bool) (sz : Nat) (v : List (List PV)) : unc g (.rd sz v) = .rd sz v := rfl
@[simp] theorem unc_rp (g : Bool) (sz : Nat) (v : List (List PV)) (a b : Nat) : unc g (.rp sz v a b) = .rp sz v a b := rfl
@[simp] theorem unc_ref (g : Bool) (a b c d : Nat) : unc g (.ref a b c d) = .ref a b c d := rfl
@[simp] theorem unc_sl (g : Bool) (a b c d : Nat) : unc g (.sl a b c d) = .sl a b c d := rfl
@[simp] theorem unc_clo (g : Bool) (f : FuncId) (v : List PV) : unc g (.clo f v) = .clo f v := rfl
@[simp] theorem unc_bnd (g : Bool) (f : FuncId) (v : List PV) : unc g (.bnd f v) = .bnd f v := rfl
@[simp] theorem unc_yld (g : Bool) (a : Nat) : unc g (.yld a) = .yld a := rfl
@[simp] theorem unc_mp (g : Bool) (a : Nat) : unc g (.mp a) = .mp a := rfl
@[simp] theorem unc_nl (g : Bool) : unc g .nl = .nl := rfl
@[simp] theorem unc_anyB (g : Bool) : unc g .anyB = .anyB := rfl
@[simp] theorem unc_any1 (g : Bool) : unc g .any1 = .any1 := rfl
@[simp] theorem unc_un (g : Bool) : unc g .un = .un := rfl
@[simp] theorem unc_self (g : Bool) (p : PV) : unc g (.cnd g p) = p := by simp [unc]
@[simp] theorem unc_and (b c : Bool) (p : PV) : unc (b && c) (.cnd b p) = p := by unfold unc; cases b <;> cases c <;> simp [strip]
@[simp] theorem unc_cnd (g b : Bool) (p : PV) : unc g (.cnd b p) = if b = g then p else if (!g || b) = true then p else strip (.cnd b p) := rfl
theorem pick_cndT (b : Bool) (t u : Bool) : (if b = true then strip (.cnd b (.val (.bool t))) else .val (.bool u)) = PV.val (.bool (if b = true then t else u)) := by cases b <;> rfl
@[simp] theorem aPick_cndT (b t u : Bool) : aPick (.val (.bool b)) (strip (.cnd b (.val (.bool t)))) (.val (.bool u)) = ⟨True, .val (.bool (if b = true then t else u)), []⟩ := by cases b <;> rfl
@[simp] theorem aPick_cndF (b t u : Bool) : aPick (.val (.bool b)) (.val (.bool u)) (strip (.cnd (!b) (.val (.bool t)))) = ⟨True, .val (.bool (if b = true then u else t)), []⟩ := by cases b <;> rfl
@[simp] theorem aPick_cndT' (b t u : Bool) : aPick (.val (.bool b)) (strip (.cnd (b == true) (.val (.bool t)))) (.val (.bool u)) = ⟨True, .val (.bool (if b = true then t else u)), []⟩ := by cases b <;> rfl
@[simp] theorem aPick_cndF' (b t u : Bool) : aPick (.val (.bool b)) (.val (.bool u)) (strip (.cnd (b == false) (.val (.bool t)))) = ⟨True, .val (.bool (if b = true then u else t)), []⟩ := by cases b <;> rfl
@[simp high] theorem aPick_cndN (b c t u : Bool) (h : (!b) = c) : aPick (.val (.bool b)) (.val (.bool u)) (strip (.cnd c (.val (.bool t)))) = ⟨True, .val (.bool (if b = true then u else t)), []⟩ := by subst h; cases b <;> rfl
@[simp] theorem evS_tmp (g : Bool) (regs : List (Nat × PV)) (t : Nat) : evS g regs (.tmp t) = unc g (look regs t) := by cases regs <;> rfl
@[simp] theorem evS_const (g : Bool) (regs : List (Nat × PV)) (v : Value) : evS g regs (.const v) = cvt v := by cases v <;> rfl
@[simp] theorem evS_func (g : Bool) (regs : List (Nat × PV)) (f : FuncId) : evS g regs (.func f) = .clo f [] := by cases regs <;> rfl
@[simp] theorem touchS_nil (g : Bool) (regs : List (Nat × PV)) : touchS g regs [] = [] := by cases regs <;> rfl
@[simp] theorem touchS_cons (g : Bool) (regs : List (Nat × PV)) (y : Operand) (r : List Operand) : touchS g regs (y :: r) = names0 (evS g regs y) ++ touchS g regs r := by cases regs <;> rfl
@[simp] theorem nextS_val (d : Tmp) (op : Op) (ty : TypeId) (pos : String) (af : Array Edge) (gu : Option (Nat × Bool)) (n : Nat) (regs : List (Nat × PV)) (o0 obs : List (Nat × Ob)) (w0 new : Nat) (x : Value) : nextS ⟨some d, op, ty, pos, af, gu⟩ ⟨n, regs, o0, w0⟩ (.val x) obs new = ⟨n, (d, .val x) :: regs, obs, new⟩ := by cases new <;> rfl
@[simp] theorem nextS_agg (d : Tmp) (op : Op) (ty : TypeId) (pos : String) (af : Array Edge) (gu : Option (Nat × Bool)) (n : Nat) (regs : List (Nat × PV)) (o0 obs : List (Nat × Ob)) (w0 new : Nat) (x : List PV) : nextS ⟨some d, op, ty, pos, af, gu⟩ ⟨n, regs, o0, w0⟩ (.agg x) obs new = ⟨n, (d, .agg x) :: regs, obs, new⟩ := by cases new <;> rfl
@[simp] theorem nextS_tup (d : Tmp) (op : Op) (ty : TypeId) (pos : String) (af : Array Edge) (gu : Option (Nat × Bool)) (n : Nat) (regs : List (Nat × PV)) (o0 obs : List (Nat × Ob)) (w0 new : Nat) (x : List PV) : nextS ⟨some d, op, ty, pos, af, gu⟩ ⟨n, regs, o0, w0⟩ (.tup x) obs new = ⟨n, (d, .tup x) :: regs, obs, new⟩ := by cases new <;> rfl
@[simp] theorem nextS_rd (d : Tmp) (op : Op) (ty : TypeId) (pos : String) (af : Array Edge) (gu : Option (Nat × Bool)) (n : Nat) (regs : List (Nat × PV)) (o0 obs : List (Nat × Ob)) (w0 new : Nat) (sz : Nat) (x : List (List PV)) : nextS ⟨some d, op, ty, pos, af, gu⟩ ⟨n, regs, o0, w0⟩ (.rd sz x) obs new = ⟨n, (d, .rd sz x) :: regs, obs, new⟩ := by cases new <;> rfl
@[simp] theorem nextS_rp (d : Tmp) (op : Op) (ty : TypeId) (pos : String) (af : Array Edge) (gu : Option (Nat × Bool)) (n : Nat) (regs : List (Nat × PV)) (o0 obs : List (Nat × Ob)) (w0 new : Nat) (sz : Nat) (x : List (List PV)) (a b : Nat) : nextS ⟨some d, op, ty, pos, af, gu⟩ ⟨n, regs, o0, w0⟩ (.rp sz x a b) obs new = ⟨n, (d, .rp sz x a b) :: regs, obs, new⟩ := by cases new <;> rfl
@[simp] theorem nextS_ref (d : Tmp) (op : Op) (ty : TypeId) (pos : String) (af : Array Edge) (gu : Option (Nat × Bool)) (n : Nat) (regs : List (Nat × PV)) (o0 obs : List (Nat × Ob)) (w0 new : Nat) (a b c e : Nat) : nextS ⟨some d, op, ty, pos, af, gu⟩ ⟨n, regs, o0, w0⟩ (.ref a b c e) obs new = ⟨n, (d, .ref a b c e) :: regs, obs, new⟩ := by cases new <;> rfl
@[simp] theorem nextS_sl (d : Tmp) (op : Op) (ty : TypeId) (pos : String) (af : Array Edge) (gu : Option (Nat × Bool)) (n : Nat) (regs : List (Nat × PV)) (o0 obs : List (Nat × Ob)) (w0 new : Nat) (a b c e : Nat) : nextS ⟨some d, op, ty, pos, af, gu⟩ ⟨n, regs, o0, w0⟩ (.sl a b c e) obs new = ⟨n, (d, .sl a b c e) :: regs, obs, new⟩ := by cases new <;> rfl
@[simp] theorem nextS_clo (d : Tmp) (op : Op) (ty : TypeId) (pos : String) (af : Array Edge) (gu : Option (Nat × Bool)) (n : Nat) (regs : List (Nat × PV)) (o0 obs : List (Nat × Ob)) (w0 new : Nat) (f : FuncId) (x : List PV) : nextS ⟨some d, op, ty, pos, af, gu⟩ ⟨n, regs, o0, w0⟩ (.clo f x) obs new = ⟨n, (d, .clo f x) :: regs, obs, new⟩ := by cases new <;> rfl
@[simp] theorem nextS_bnd (d : Tmp) (op : Op) (ty : TypeId) (pos : String) (af : Array Edge) (gu : Option (Nat × Bool)) (n : Nat) (regs : List (Nat × PV)) (o0 obs : List (Nat × Ob)) (w0 new : Nat) (f : FuncId) (x : List PV) : nextS ⟨some d, op, ty, pos, af, gu⟩ ⟨n, regs, o0, w0⟩ (.bnd f x) obs new = ⟨n, (d, .bnd f x) :: regs, obs, new⟩ := by cases new <;> rfl
@[simp] theorem nextS_yld (d : Tmp) (op : Op) (ty : TypeId) (pos : String) (af : Array Edge) (gu : Option (Nat × Bool)) (n : Nat) (regs : List (Nat × PV)) (o0 obs : List (Nat × Ob)) (w0 new : Nat) (a : Nat) : nextS ⟨some d, op, ty, pos, af, gu⟩ ⟨n, regs, o0, w0⟩ (.yld a) obs new = ⟨n, (d, .yld a) :: regs, obs, new⟩ := by cases new <;> rfl
@[simp] theorem nextS_mp (d : Tmp) (op : Op) (ty : TypeId) (pos : String) (af : Array Edge) (gu : Option (Nat × Bool)) (n : Nat) (regs : List (Nat × PV)) (o0 obs : List (Nat × Ob)) (w0 new : Nat) (a : Nat) : nextS ⟨some d, op, ty, pos, af, gu⟩ ⟨n, regs, o0, w0⟩ (.mp a) obs new = ⟨n, (d, .mp a) :: regs, obs, new⟩ := by cases new <;> rfl
@[simp] theorem nextS_nl (d : Tmp) (op : Op) (ty : TypeId) (pos : String) (af : Array Edge) (gu : Option (Nat × Bool)) (n : Nat) (regs : List (Nat × PV)) (o0 obs : List (Nat × Ob)) (w0 new : Nat)  : nextS ⟨some d, op, ty, pos, af, gu⟩ ⟨n, regs, o0, w0⟩ (.nl) obs new = ⟨n, (d, .nl) :: regs, obs, new⟩ := by cases new <;> rfl
@[simp] theorem nextS_anyB (d : Tmp) (op : Op) (ty : TypeId) (pos : String) (af : Array Edge) (gu : Option (Nat × Bool)) (n : Nat) (regs : List (Nat × PV)) (o0 obs : List (Nat × Ob)) (w0 new : Nat) : nextS ⟨some d, op, ty, pos, af, gu⟩ ⟨n, regs, o0, w0⟩ .anyB obs new = ⟨n, (d, .anyB) :: regs, obs, new⟩ := by cases new <;> rfl
@[simp] theorem nextS_cnd (d : Tmp) (op : Op) (ty : TypeId) (pos : String) (af : Array Edge) (gu : Option (Nat × Bool)) (n : Nat) (regs : List (Nat × PV)) (o0 obs : List (Nat × Ob)) (w0 new : Nat) (b : Bool) (p : PV) : nextS ⟨some d, op, ty, pos, af, gu⟩ ⟨n, regs, o0, w0⟩ (.cnd b p) obs new = ⟨n, (d, .cnd b p) :: regs, obs, new⟩ := by cases new <;> rfl
@[simp] theorem nextS_un (d : Tmp) (op : Op) (ty : TypeId) (pos : String) (af : Array Edge) (gu : Option (Nat × Bool)) (n : Nat) (regs : List (Nat × PV)) (o0 obs : List (Nat × Ob)) (w0 new : Nat)  : nextS ⟨some d, op, ty, pos, af, gu⟩ ⟨n, regs, o0, w0⟩ (.un) obs new = ⟨n, (d, .un) :: regs, obs, new⟩ := by cases new <;> rfl
@[simp] theorem nextS_none (op : Op) (ty : TypeId) (pos : String) (af : Array Edge) (gu : Option (Nat × Bool)) (n : Nat) (regs : List (Nat × PV)) (o0 obs : List (Nat × Ob)) (w0 new : Nat) (v : PV) : nextS ⟨none, op, ty, pos, af, gu⟩ ⟨n, regs, o0, w0⟩ v obs new = ⟨n, regs, obs, new⟩ := by cases new <;> rfl
@[simp] theorem nextSt_val0 (d : Tmp) (op : Op) (ty : TypeId) (pos : String) (af : Array Edge) (gu : Option (Nat × Bool)) (n : Nat) (regs : List (Nat × PV)) (obs : List (Nat × Ob)) (new : Nat) (x : Value)  : nextSt ⟨some d, op, ty, pos, af, gu⟩ ⟨n, regs, obs, new⟩ (.val x) [] = ⟨n, (d, .val x) :: regs, applyU obs [], new + 8⟩ := by cases new <;> rfl
@[simp] theorem nextSt_val1 (d : Tmp) (op : Op) (ty : TypeId) (pos : String) (af : Array Edge) (gu : Option (Nat × Bool)) (n : Nat) (regs : List (Nat × PV)) (obs : List (Nat × Ob)) (new : Nat) (x : Value) (y : Nat × Option Ob) (r : Upd) : nextSt ⟨some d, op, ty, pos, af, gu⟩ ⟨n, regs, obs, new⟩ (.val x) (y :: r) = ⟨n, (d, .val x) :: regs, applyU obs (y :: r), new + 8⟩ := by cases new <;> rfl
@[simp] theorem nextSt_agg0 (d : Tmp) (op : Op) (ty : TypeId) (pos : String) (af : Array Edge) (gu : Option (Nat × Bool)) (n : Nat) (regs : List (Nat × PV)) (obs : List (Nat × Ob)) (new : Nat) (x : List PV)  : nextSt ⟨some d, op, ty, pos, af, gu⟩ ⟨n, regs, obs, new⟩ (.agg x) [] = ⟨n, (d, .agg x) :: regs, applyU obs [], new + 8⟩ := by cases new <;> rfl
@[simp] theorem nextSt_agg1 (d : Tmp) (op : Op) (ty : TypeId) (pos : String) (af : Array Edge) (gu : Option (Nat × Bool)) (n : Nat) (regs : List (Nat × PV)) (obs : List (Nat × Ob)) (new : Nat) (x : List PV) (y : Nat × Option Ob) (r : Upd) : nextSt ⟨some d, op, ty, pos, af, gu⟩ ⟨n, regs, obs, new⟩ (.agg x) (y :: r) = ⟨n, (d, .agg x) :: regs, applyU obs (y :: r), new + 8⟩ := by cases new <;> rfl
@[simp] theorem nextSt_tup0 (d : Tmp) (op : Op) (ty : TypeId) (pos : String) (af : Array Edge) (gu : Option (Nat × Bool)) (n : Nat) (regs : List (Nat × PV)) (obs : List (Nat × Ob)) (new : Nat) (x : List PV)  : nextSt ⟨some d, op, ty, pos, af, gu⟩ ⟨n, regs, obs, new⟩ (.tup x) [] = ⟨n, (d, .tup x) :: regs, applyU obs [], new + 8⟩ := by cases new <;> rfl
@[simp] theorem nextSt_tup1 (d : Tmp) (op : Op) (ty : TypeId) (pos : String) (af : Array Edge) (gu : Option (Nat × Bool)) (n : Nat) (regs : List (Nat × PV)) (obs : List (Nat × Ob)) (new : Nat) (x : List PV) (y : Nat × Option Ob) (r : Upd) : nextSt ⟨some d, op, ty, pos, af, gu⟩ ⟨n, regs, obs, new⟩ (.tup x) (y :: r) = ⟨n, (d, .tup x) :: regs, applyU obs (y :: r), new + 8⟩ := by cases new <;> rfl
@[simp] theorem nextSt_rd0 (d : Tmp) (op : Op) (ty : TypeId) (pos : String) (af : Array Edge) (gu : Option (Nat × Bool)) (n : Nat) (regs : List (Nat × PV)) (obs : List (Nat × Ob)) (new : Nat) (sz : Nat) (x : List (List PV))  : nextSt ⟨some d, op, ty, pos, af, gu⟩ ⟨n, regs, obs, new⟩ (.rd sz x) [] = ⟨n, (d, .rd sz x) :: regs, applyU obs [], new + 8⟩ := by cases new <;> rfl
@[simp] theorem nextSt_rd1 (d : Tmp) (op : Op) (ty : TypeId) (pos : String) (af : Array Edge) (gu : Option (Nat × Bool)) (n : Nat) (regs : List (Nat × PV)) (obs : List (Nat × Ob)) (new : Nat) (sz : Nat) (x : List (List PV)) (y : Nat × Option Ob) (r : Upd) : nextSt ⟨some d, op, ty, pos, af, gu⟩ ⟨n, regs, obs, new⟩ (.rd sz x) (y :: r) = ⟨n, (d, .rd sz x) :: regs, applyU obs (y :: r), new + 8⟩ := by cases new <;> rfl
@[simp] theorem nextSt_rp0 (d : Tmp) (op : Op) (ty : TypeId) (pos : String) (af : Array Edge) (gu : Option (Nat × Bool)) (n : Nat) (regs : List (Nat × PV)) (obs : List (Nat × Ob)) (new : Nat) (sz : Nat) (x : List (List PV)) (a b : Nat)  : nextSt ⟨some d, op, ty, pos, af, gu⟩ ⟨n, regs, obs, new⟩ (.rp sz x a b) [] = ⟨n, (d, .rp sz x a b) :: regs, applyU obs [], new + 8⟩ := by cases new <;> rfl
@[simp] theorem nextSt_rp1 (d : Tmp) (op : Op) (ty : TypeId) (pos : String) (af : Array Edge) (gu : Option (Nat × Bool)) (n : Nat) (regs : List (Nat × PV)) (obs : List (Nat × Ob)) (new : Nat) (sz : Nat) (x : List (List PV)) (a b : Nat) (y : Nat × Option Ob) (r : Upd) : nextSt ⟨some d, op, ty, pos, af, gu⟩ ⟨n, regs, obs, new⟩ (.rp sz x a b) (y :: r) = ⟨n, (d, .rp sz x a b) :: regs, applyU obs (y :: r), new + 8⟩ := by cases new <;> rfl
@[simp] theorem nextSt_ref0 (d : Tmp) (op : Op) (ty : TypeId) (pos : String) (af : Array Edge) (gu : Option (Nat × Bool)) (n : Nat) (regs : List (Nat × PV)) (obs : List (Nat × Ob)) (new : Nat) (a b c e : Nat)  : nextSt ⟨some d, op, ty, pos, af, gu⟩ ⟨n, regs, obs, new⟩ (.ref a b c e) [] = ⟨n, (d, .ref a b c e) :: regs, applyU obs [], new + 8⟩ := by cases new <;> rfl
@[simp] theorem nextSt_ref1 (d : Tmp) (op : Op) (ty : TypeId) (pos : String) (af : Array Edge) (gu : Option (Nat × Bool)) (n : Nat) (regs : List (Nat × PV)) (obs : List (Nat × Ob)) (new : Nat) (a b c e : Nat) (y : Nat × Option Ob) (r : Upd) : nextSt ⟨some d, op, ty, pos, af, gu⟩ ⟨n, regs, obs, new⟩ (.ref a b c e) (y :: r) = ⟨n, (d, .ref a b c e) :: regs, applyU obs (y :: r), new + 8⟩ := by cases new <;> rfl
@[simp] theorem nextSt_sl0 (d : Tmp) (op : Op) (ty : TypeId) (pos : String) (af : Array Edge) (gu : Option (Nat × Bool)) (n : Nat) (regs : List (Nat × PV)) (obs : List (Nat × Ob)) (new : Nat) (a b c e : Nat)  : nextSt ⟨some d, op, ty, pos, af, gu⟩ ⟨n, regs, obs, new⟩ (.sl a b c e) [] = ⟨n, (d, .sl a b c e) :: regs, applyU obs [], new + 8⟩ := by cases new <;> rfl
@[simp] theorem nextSt_sl1 (d : Tmp) (op : Op) (ty : TypeId) (pos : String) (af : Array Edge) (gu : Option (Nat × Bool)) (n : Nat) (regs : List (Nat × PV)) (obs : List (Nat × Ob)) (new : Nat) (a b c e : Nat) (y : Nat × Option Ob) (r : Upd) : nextSt ⟨some d, op, ty, pos, af, gu⟩ ⟨n, regs, obs, new⟩ (.sl a b c e) (y :: r) = ⟨n, (d, .sl a b c e) :: regs, applyU obs (y :: r), new + 8⟩ := by cases new <;> rfl
@[simp] theorem nextSt_clo0 (d : Tmp) (op : Op) (ty : TypeId) (pos : String) (af : Array Edge) (gu : Option (Nat × Bool)) (n : Nat) (regs : List (Nat × PV)) (obs : List (Nat × Ob)) (new : Nat) (f : FuncId) (x : List PV)  : nextSt ⟨some d, op, ty, pos, af, gu⟩ ⟨n, regs, obs, new⟩ (.clo f x) [] = ⟨n, (d, .clo f x) :: regs, applyU obs [], new + 8⟩ := by cases new <;> rfl
@[simp] theorem nextSt_clo1 (d : Tmp) (op : Op) (ty : TypeId) (pos : String) (af : Array Edge) (gu : Option (Nat × Bool)) (n : Nat) (regs : List (Nat × PV)) (obs : List (Nat × Ob)) (new : Nat) (f : FuncId) (x : List PV) (y : Nat × Option Ob) (r : Upd) : nextSt ⟨some d, op, ty, pos, af, gu⟩ ⟨n, regs, obs, new⟩ (.clo f x) (y :: r) = ⟨n, (d, .clo f x) :: regs, applyU obs (y :: r), new + 8⟩ := by cases new <;> rfl
@[simp] theorem nextSt_un0 (d : Tmp) (op : Op) (ty : TypeId) (pos : String) (af : Array Edge) (gu : Option (Nat × Bool)) (n : Nat) (regs : List (Nat × PV)) (obs : List (Nat × Ob)) (new : Nat)   : nextSt ⟨some d, op, ty, pos, af, gu⟩ ⟨n, regs, obs, new⟩ (.un) [] = ⟨n, (d, .un) :: regs, applyU obs [], new + 8⟩ := by cases new <;> rfl
@[simp] theorem nextSt_un1 (d : Tmp) (op : Op) (ty : TypeId) (pos : String) (af : Array Edge) (gu : Option (Nat × Bool)) (n : Nat) (regs : List (Nat × PV)) (obs : List (Nat × Ob)) (new : Nat)  (y : Nat × Option Ob) (r : Upd) : nextSt ⟨some d, op, ty, pos, af, gu⟩ ⟨n, regs, obs, new⟩ (.un) (y :: r) = ⟨n, (d, .un) :: regs, applyU obs (y :: r), new + 8⟩ := by cases new <;> rfl
@[simp] theorem nextSt_bnd0 (d : Tmp) (op : Op) (ty : TypeId) (pos : String) (af : Array Edge) (gu : Option (Nat × Bool)) (n : Nat) (regs : List (Nat × PV)) (obs : List (Nat × Ob)) (new : Nat) (f : FuncId) (x : List PV) : nextSt ⟨some d, op, ty, pos, af, gu⟩ ⟨n, regs, obs, new⟩ (.bnd f x) [] = ⟨n, (d, .bnd f x) :: regs, applyU obs [], new + 8⟩ := by cases new <;> rfl
@[simp] theorem nextSt_bnd1 (d : Tmp) (op : Op) (ty : TypeId) (pos : String) (af : Array Edge) (gu : Option (Nat × Bool)) (n : Nat) (regs : List (Nat × PV)) (obs : List (Nat × Ob)) (new : Nat) (f : FuncId) (x : List PV) (y : Nat × Option Ob) (r : Upd) : nextSt ⟨some d, op, ty, pos, af, gu⟩ ⟨n, regs, obs, new⟩ (.bnd f x) (y :: r) = ⟨n, (d, .bnd f x) :: regs, applyU obs (y :: r), new + 8⟩ := by cases new <;> rfl
@[simp] theorem nextSt_yld0 (d : Tmp) (op : Op) (ty : TypeId) (pos : String) (af : Array Edge) (gu : Option (Nat × Bool)) (n : Nat) (regs : List (Nat × PV)) (obs : List (Nat × Ob)) (new : Nat) (a : Nat) : nextSt ⟨some d, op, ty, pos, af, gu⟩ ⟨n, regs, obs, new⟩ (.yld a) [] = ⟨n, (d, .yld a) :: regs, applyU obs [], new + 8⟩ := by cases new <;> rfl
@[simp] theorem nextSt_yld1 (d : Tmp) (op : Op) (ty : TypeId) (pos : String) (af : Array Edge) (gu : Option (Nat × Bool)) (n : Nat) (regs : List (Nat × PV)) (obs : List (Nat × Ob)) (new : Nat) (a : Nat) (y : Nat × Option Ob) (r : Upd) : nextSt ⟨some d, op, ty, pos, af, gu⟩ ⟨n, regs, obs, new⟩ (.yld a) (y :: r) = ⟨n, (d, .yld a) :: regs, applyU obs (y :: r), new + 8⟩ := by cases new <;> rfl
@[simp] theorem nextSt_mp0 (d : Tmp) (op : Op) (ty : TypeId) (pos : String) (af : Array Edge) (gu : Option (Nat × Bool)) (n : Nat) (regs : List (Nat × PV)) (obs : List (Nat × Ob)) (new : Nat) (a : Nat) : nextSt ⟨some d, op, ty, pos, af, gu⟩ ⟨n, regs, obs, new⟩ (.mp a) [] = ⟨n, (d, .mp a) :: regs, applyU obs [], new + 8⟩ := by cases new <;> rfl
@[simp] theorem nextSt_mp1 (d : Tmp) (op : Op) (ty : TypeId) (pos : String) (af : Array Edge) (gu : Option (Nat × Bool)) (n : Nat) (regs : List (Nat × PV)) (obs : List (Nat × Ob)) (new : Nat) (a : Nat) (y : Nat × Option Ob) (r : Upd) : nextSt ⟨some d, op, ty, pos, af, gu⟩ ⟨n, regs, obs, new⟩ (.mp a) (y :: r) = ⟨n, (d, .mp a) :: regs, applyU obs (y :: r), new + 8⟩ := by cases new <;> rfl
@[simp] theorem nextSt_nl0 (d : Tmp) (op : Op) (ty : TypeId) (pos : String) (af : Array Edge) (gu : Option (Nat × Bool)) (n : Nat) (regs : List (Nat × PV)) (obs : List (Nat × Ob)) (new : Nat)  : nextSt ⟨some d, op, ty, pos, af, gu⟩ ⟨n, regs, obs, new⟩ (.nl) [] = ⟨n, (d, .nl) :: regs, applyU obs [], new + 8⟩ := by cases new <;> rfl
@[simp] theorem nextSt_nl1 (d : Tmp) (op : Op) (ty : TypeId) (pos : String) (af : Array Edge) (gu : Option (Nat × Bool)) (n : Nat) (regs : List (Nat × PV)) (obs : List (Nat × Ob)) (new : Nat)  (y : Nat × Option Ob) (r : Upd) : nextSt ⟨some d, op, ty, pos, af, gu⟩ ⟨n, regs, obs, new⟩ (.nl) (y :: r) = ⟨n, (d, .nl) :: regs, applyU obs (y :: r), new + 8⟩ := by cases new <;> rfl
@[simp] theorem nextSt_anyB0 (d : Tmp) (op : Op) (ty : TypeId) (pos : String) (af : Array Edge) (gu : Option (Nat × Bool)) (n : Nat) (regs : List (Nat × PV)) (obs : List (Nat × Ob)) (new : Nat) : nextSt ⟨some d, op, ty, pos, af, gu⟩ ⟨n, regs, obs, new⟩ .anyB [] = ⟨n, (d, .anyB) :: regs, applyU obs [], new + 8⟩ := by cases new <;> rfl
@[simp] theorem nextSt_cnd0 (d : Tmp) (op : Op) (ty : TypeId) (pos : String) (af : Array Edge) (gu : Option (Nat × Bool)) (n : Nat) (regs : List (Nat × PV)) (obs : List (Nat × Ob)) (new : Nat) (b : Bool) (p : PV) : nextSt ⟨some d, op, ty, pos, af, gu⟩ ⟨n, regs, obs, new⟩ (.cnd b p) [] = ⟨n, (d, .cnd b p) :: regs, applyU obs [], new + 8⟩ := by cases new <;> rfl
@[simp] theorem nextSt_none0 (op : Op) (ty : TypeId) (pos : String) (af : Array Edge) (gu : Option (Nat × Bool)) (n : Nat) (regs : List (Nat × PV)) (obs : List (Nat × Ob)) (new : Nat) (v : PV)  : nextSt ⟨none, op, ty, pos, af, gu⟩ ⟨n, regs, obs, new⟩ v [] = ⟨n, regs, applyU obs [], new + 8⟩ := by cases new <;> rfl
@[simp] theorem nextSt_none1 (op : Op) (ty : TypeId) (pos : String) (af : Array Edge) (gu : Option (Nat × Bool)) (n : Nat) (regs : List (Nat × PV)) (obs : List (Nat × Ob)) (new : Nat) (v : PV) (y : Nat × Option Ob) (r : Upd) : nextSt ⟨none, op, ty, pos, af, gu⟩ ⟨n, regs, obs, new⟩ v (y :: r) = ⟨n, regs, applyU obs (y :: r), new + 8⟩ := by cases new <;> rfl
@[simp] theorem act_move (x : Operand) (dst : Option Tmp) (ty : TypeId) (pos : String) (af : Array Edge) (gu : Option (Nat × Bool)) (ev : Operand → PV) (ob : Nat → Option Ob) (new : Nat) : act P ⟨dst, .move x, ty, pos, af, gu⟩ ev ob new = ⟨True, ev x, []⟩ := by cases new <;> rfl
@[simp] theorem act_assign (x : Operand) (dst : Option Tmp) (ty : TypeId) (pos : String) (af : Array Edge) (gu : Option (Nat × Bool)) (ev : Operand → PV) (ob : Nat → Option Ob) (new : Nat) : act P ⟨dst, .assign x, ty, pos, af, gu⟩ ev ob new = ⟨True, ev x, []⟩ := by cases new <;> rfl
@[simp] theorem act_pick (c x y : Operand) (dst : Option Tmp) (ty : TypeId) (pos : String) (af : Array Edge) (gu : Option (Nat × Bool)) (ev : Operand → PV) (ob : Nat → Option Ob) (new : Nat) : act P ⟨dst, .pick c x y, ty, pos, af, gu⟩ ev ob new = aPick (ev c) (ev x) (ev y) := by cases new <;> rfl
@[simp] theorem act_extract (x : Operand) (i : Nat) (dst : Option Tmp) (ty : TypeId) (pos : String) (af : Array Edge) (gu : Option (Nat × Bool)) (ev : Operand → PV) (ob : Nat → Option Ob) (new : Nat) : act P ⟨dst, .extract x i, ty, pos, af, gu⟩ ev ob new = aExtract (ev x) i := by cases new <;> rfl
@[simp] theorem act_makeFunc (fn : Fn) (first caps : Array Operand) (dst : Option Tmp) (ty : TypeId) (pos : String) (af : Array Edge) (gu : Option (Nat × Bool)) (ev : Operand → PV) (ob : Nat → Option Ob) (new : Nat) : act P ⟨dst, .makeFunc fn first caps, ty, pos, af, gu⟩ ev ob new = aMakeFunc fn (first.toList.map ev) (caps.toList.map ev) := by cases new <;> rfl
@[simp] theorem act_nilCheck (x : Operand) (dst : Option Tmp) (ty : TypeId) (pos : String) (af : Array Edge) (gu : Option (Nat × Bool)) (ev : Operand → PV) (ob : Nat → Option Ob) (new : Nat) : act P ⟨dst, .nilCheck x, ty, pos, af, gu⟩ ev ob new = aNilCheck (ev x) := by cases new <;> rfl
@[simp] theorem act_box (T : TypeId) (x : Operand) (dst : Option Tmp) (ty : TypeId) (pos : String) (af : Array Edge) (gu : Option (Nat × Bool)) (ev : Operand → PV) (ob : Nat → Option Ob) (new : Nat) : act P ⟨dst, .box T x, ty, pos, af, gu⟩ ev ob new = aBox T (ev x) new := by cases new <;> rfl
@[simp] theorem act_alloc (T : TypeId) (dst : Option Tmp) (ty : TypeId) (pos : String) (af : Array Edge) (gu : Option (Nat × Bool)) (ev : Operand → PV) (ob : Nat → Option Ob) (new : Nat) : act P ⟨dst, .alloc T, ty, pos, af, gu⟩ ev ob new = aAlloc P T new := by cases new <;> rfl
@[simp] theorem act_load (T : TypeId) (x : Operand) (dst : Option Tmp) (ty : TypeId) (pos : String) (af : Array Edge) (gu : Option (Nat × Bool)) (ev : Operand → PV) (ob : Nat → Option Ob) (new : Nat) : act P ⟨dst, .load T x, ty, pos, af, gu⟩ ev ob new = aLoad P T (ev x) ob := by cases new <;> rfl
@[simp] theorem act_store (T : TypeId) (x y : Operand) (dst : Option Tmp) (ty : TypeId) (pos : String) (af : Array Edge) (gu : Option (Nat × Bool)) (ev : Operand → PV) (ob : Nat → Option Ob) (new : Nat) : act P ⟨dst, .store T x y, ty, pos, af, gu⟩ ev ob new = aStore P T (ev x) (ev y) ob := by cases new <;> rfl
@[simp] theorem act_fieldAddr (S : TypeId) (x : Operand) (f : Nat) (dst : Option Tmp) (ty : TypeId) (pos : String) (af : Array Edge) (gu : Option (Nat × Bool)) (ev : Operand → PV) (ob : Nat → Option Ob) (new : Nat) : act P ⟨dst, .fieldAddr S x f, ty, pos, af, gu⟩ ev ob new = aFieldAddr P S (ev x) f := by cases new <;> rfl
@[simp] theorem act_field (T : TypeId) (x : Operand) (f : Nat) (dst : Option Tmp) (ty : TypeId) (pos : String) (af : Array Edge) (gu : Option (Nat × Bool)) (ev : Operand → PV) (ob : Nat → Option Ob) (new : Nat) : act P ⟨dst, .field T x f, ty, pos, af, gu⟩ ev ob new = aField P T (ev x) f := by cases new <;> rfl
@[simp] theorem act_indexAddr (T : TypeId) (x y : Operand) (dst : Option Tmp) (ty : TypeId) (pos : String) (af : Array Edge) (gu : Option (Nat × Bool)) (ev : Operand → PV) (ob : Nat → Option Ob) (new : Nat) : act P ⟨dst, .indexAddr T x y, ty, pos, af, gu⟩ ev ob new = aIndexAddr P T (ev x) (ev y) := by cases new <;> rfl
@[simp] theorem act_index (T : TypeId) (x y : Operand) (dst : Option Tmp) (ty : TypeId) (pos : String) (af : Array Edge) (gu : Option (Nat × Bool)) (ev : Operand → PV) (ob : Nat → Option Ob) (new : Nat) : act P ⟨dst, .index T x y, ty, pos, af, gu⟩ ev ob new = aIndex P T (ev x) (ev y) := by cases new <;> rfl
@[simp] theorem act_slice (T : TypeId) (x : Operand) (lo hi mx : Option Operand) (dst : Option Tmp) (ty : TypeId) (pos : String) (af : Array Edge) (gu : Option (Nat × Bool)) (ev : Operand → PV) (ob : Nat → Option Ob) (new : Nat) : act P ⟨dst, .slice T x lo hi mx, ty, pos, af, gu⟩ ev ob new = aSlice P T (ev x) (lo.map ev) (hi.map ev) (mx.map ev) := by cases new <;> rfl
@[simp] theorem act_build (t : TypeId) (parts : Array (Nat × Operand)) (dst : Option Tmp) (ty : TypeId) (pos : String) (af : Array Edge) (gu : Option (Nat × Bool)) (ev : Operand → PV) (ob : Nat → Option Ob) (new : Nat) : act P ⟨dst, .build t parts, ty, pos, af, gu⟩ ev ob new = aBuild P t (partsP ev parts) := by cases new <;> rfl
@[simp] theorem act_buildSlice (t : TypeId) (len : Nat) (parts : Array (Nat × Operand)) (dst : Option Tmp) (ty : TypeId) (pos : String) (af : Array Edge) (gu : Option (Nat × Bool)) (ev : Operand → PV) (ob : Nat → Option Ob) (new : Nat) : act P ⟨dst, .buildSlice t len parts, ty, pos, af, gu⟩ ev ob new = aBuildSlice P t len (partsP ev parts) new := by cases new <;> rfl
@[simp] theorem act_makeSlice (t : TypeId) (x y : Operand) (dst : Option Tmp) (ty : TypeId) (pos : String) (af : Array Edge) (gu : Option (Nat × Bool)) (ev : Operand → PV) (ob : Nat → Option Ob) (new : Nat) : act P ⟨dst, .makeSlice t x y, ty, pos, af, gu⟩ ev ob new = aMakeSlice P t (ev x) (ev y) new := by cases new <;> rfl
@[simp] theorem act_convert (s d : TypeId) (x : Operand) (dst : Option Tmp) (ty : TypeId) (pos : String) (af : Array Edge) (gu : Option (Nat × Bool)) (ev : Operand → PV) (ob : Nat → Option Ob) (new : Nat) : act P ⟨dst, .convert s d x, ty, pos, af, gu⟩ ev ob new = aConv P s d (ev x) (aConvert P s d (ev x) ob (scal P ev ⟨dst, .convert s d x, ty, pos, af, gu⟩)) := by cases new <;> rfl
@[simp] theorem act_binOp (op : BinOp) (t : TypeId) (x y : Operand) (t2 : TypeId) (dst : Option Tmp) (ty : TypeId) (pos : String) (af : Array Edge) (gu : Option (Nat × Bool)) (ev : Operand → PV) (ob : Nat → Option Ob) (new : Nat) : act P ⟨dst, .binOp op t x y t2, ty, pos, af, gu⟩ ev ob new = aEqB P op t (ev x) (ev y) (aEqA P op t (ev x) (ev y) (aBin P op t x y (ev x) (ev y) (scal P ev ⟨dst, .binOp op t x y t2, ty, pos, af, gu⟩))) := by cases new <;> rfl
@[simp] theorem act_unOp (op : UnOp) (t : TypeId) (x : Operand) (dst : Option Tmp) (ty : TypeId) (pos : String) (af : Array Edge) (gu : Option (Nat × Bool)) (ev : Operand → PV) (ob : Nat → Option Ob) (new : Nat) : act P ⟨dst, .unOp op t x, ty, pos, af, gu⟩ ev ob new = aUn op (ev x) (scal P ev ⟨dst, .unOp op t x, ty, pos, af, gu⟩) := by cases new <;> rfl
@[simp] theorem act_makeMap (t : TypeId) (x : Option Operand) (dst : Option Tmp) (ty : TypeId) (pos : String) (af : Array Edge) (gu : Option (Nat × Bool)) (ev : Operand → PV) (ob : Nat → Option Ob) (new : Nat) : act P ⟨dst, .makeMap t x, ty, pos, af, gu⟩ ev ob new = aMakeMap (x.map ev) new := by cases new <;> rfl
@[simp] theorem act_lookup (t : TypeId) (x y : Operand) (c : Bool) (dst : Option Tmp) (ty : TypeId) (pos : String) (af : Array Edge) (gu : Option (Nat × Bool)) (ev : Operand → PV) (ob : Nat → Option Ob) (new : Nat) : act P ⟨dst, .lookup t x y c, ty, pos, af, gu⟩ ev ob new = aLookup P t (ev x) (ev y) c ob := by cases new <;> rfl
@[simp] theorem act_mapUpdate (t : TypeId) (x y z : Operand) (dst : Option Tmp) (ty : TypeId) (pos : String) (af : Array Edge) (gu : Option (Nat × Bool)) (ev : Operand → PV) (ob : Nat → Option Ob) (new : Nat) : act P ⟨dst, .mapUpdate t x y z, ty, pos, af, gu⟩ ev ob new = aMapUpdate P t (ev x) (ev y) (ev z) ob := by cases new <;> rfl
@[simp] theorem act_insert (t : TypeId) (x y z : Operand) (dst : Option Tmp) (ty : TypeId) (pos : String) (af : Array Edge) (gu : Option (Nat × Bool)) (ev : Operand → PV) (ob : Nat → Option Ob) (new : Nat) : act P ⟨dst, .insert t x y z, ty, pos, af, gu⟩ ev ob new = aMapUpdate P t (ev x) (ev y) (ev z) ob := by cases new <;> rfl
@[simp] theorem aLookup_mp (t : TypeId) (nm : Nat) (k : PV) (c : Bool) (ob : Nat → Option Ob) : aLookup P t (.mp nm) k c ob = match P.underlying t with
  | some (.map kt et) => (match P.underlying kt, ob nm with
    | some d, some o => (match findP d k o.rows 0 with
      | some (some (_, v)) => ⟨o.k = .map ∧ keyOk d k, okV c v true, []⟩
      | some none => (match tzeroV P et with
        | some z => ⟨o.k = .map ∧ keyOk d k, okV c z false, []⟩
        | none => .bad)
      | none => .bad)
    | _, _ => .bad)
  | _ => .bad := by
  unfold aLookup
  cases P.underlying t with
  | none => rfl
  | some d => cases d <;> rfl
@[simp] theorem aMapUpdate_mp (t : TypeId) (nm : Nat) (k v : PV) (ob : Nat → Option Ob) : aMapUpdate P t (.mp nm) k v ob = match P.underlying t with
  | some (.map kt et) => (match P.underlying kt, ob nm with
    | some d, some o => (match findP d k o.rows 0 with
      | some (some (i, _)) => ⟨o.k = .map ∧ keyOk d k, .un, [(nm, some ⟨o.T, o.sz, o.rows.set i [k, v], .map⟩)]⟩
      | some none => ⟨o.k = .map ∧ keyOk d k, .un, [(nm, some ⟨o.T, o.sz, o.rows ++ [[k, v]], .map⟩)]⟩
      | none => .bad)
    | _, _ => .bad)
  | _ => .bad := by
  unfold aMapUpdate
  cases P.underlying t with
  | none => rfl
  | some d => cases d <;> rfl
@[simp] theorem aBuiltin_len_mp (nm : Nat) (t : TypeId) (ob : Nat → Option Ob) (new : Nat) (sc : R) : aBuiltin P .len [.mp nm] [t] ob new sc = aLenM P t nm ob := rfl
@[simp] theorem act_builtin (b : Builtin) (args : Array Operand) (ts : Array TypeId) (dst : Option Tmp) (ty : TypeId) (pos : String) (af : Array Edge) (gu : Option (Nat × Bool)) (ev : Operand → PV) (ob : Nat → Option Ob) (new : Nat) : act P ⟨dst, .call ⟨.builtin b, args, ts⟩, ty, pos, af, gu⟩ ev ob new = aBuiltin P b (args.toList.map ev) ts.toList ob new (scal P ev ⟨dst, .call ⟨.builtin b, args, ts⟩, ty, pos, af, gu⟩) := by cases new <;> rfl
@[simp] theorem guardV_eq (all : List Oper) (st : St) (j : Nat) : guardV all st j = match (all[j]?).bind (·.dst) with
    | some d => look st.regs d
    | none => .un := by cases st <;> rfl
@[simp] theorem evP_tmp (regs : List (Nat × PV)) (t : Nat) : evP regs (.tmp t) = strip (look regs t) := by cases regs <;> rfl
@[simp] theorem evP_const (regs : List (Nat × PV)) (v : Value) : evP regs (.const v) = cvt v := by cases v <;> rfl
@[simp] theorem evP_func (regs : List (Nat × PV)) (f : FuncId) : evP regs (.func f) = .clo f [] := by cases regs <;> rfl
@[simp] theorem look_nil (t : Nat) : look [] t = .un := by cases t <;> rfl
@[simp] theorem look_cons (k t : Nat) (v : PV) (r : List (Nat × PV)) : look ((k, v) :: r) t = if k = t then v else look r t := by by_cases h : k = t <;> simp [look, h]
@[simp] theorem names0_val (v : Value) : names0 (.val v) = [] := rfl
@[simp] theorem names0_agg (v : List PV) : names0 (.agg v) = [] := rfl
@[simp] theorem names0_tup (v : List PV) : names0 (.tup v) = [] := rfl
@[simp] theorem names0_rd (sz : Nat) (v : List (List PV)) : names0 (.rd sz v) = [] := rfl
@[simp] theorem names0_rp (sz : Nat) (v : List (List PV)) (a b : Nat) : names0 (.rp sz v a b) = [] := rfl
@[simp] theorem names0_ref (a b c d : Nat) : names0 (.ref a b c d) = [a] := rfl
@[simp] theorem names0_sl (a b c d : Nat) : names0 (.sl a b c d) = [a] := rfl
@[simp] theorem names0_clo (f : FuncId) (v : List PV) : names0 (.clo f v) = [] := rfl
@[simp] theorem names0_un : names0 .un = [] := rfl
@[simp] theorem names0_nl : names0 .nl = [] := rfl
@[simp] theorem names0_anyB : names0 .anyB = [] := rfl
@[simp] theorem names0_any1 : names0 .any1 = [] := rfl
@[simp] theorem names0_bnd (f : FuncId) (v : List PV) : names0 (.bnd f v) = [] := rfl
@[simp] theorem names0_mp (a : Nat) : names0 (.mp a) = [a] := rfl
@[simp] theorem names0_yld (a : Nat) : names0 (.yld a) = [a] := rfl
@[simp] theorem touch_nil (regs : List (Nat × PV)) : touch regs [] = [] := by cases regs <;> rfl
@[simp] theorem touch_cons (regs : List (Nat × PV)) (y : Operand) (r : List Operand) : touch regs (y :: r) = names0 (evP regs y) ++ touch regs r := by cases regs <;> rfl
end
attribute [simp ↓] stepT stepK runR_mk runT_mk
attribute [simp high] condK_any condK_true condK_false guardK_tt guardK_ff guardK_tf guardK_ft guardK_un
attribute [simp low] condK_val guardK_val
attribute [simp] Op.operands Call.operands
attribute [simp] aBuiltin cvt lookO applyU dropO dstIn uOk
attribute [simp] intBin strBin isLit isBoolT isIfaceT ofInt cutOk rowLoad rowFits isAggD splice lowS lowOk
attribute [simp] aBuild fillP partsP partsOne fieldPlaces aMakeSlice aBuildSlice aBox aAlloc chunk
attribute [simp] aAppend aAppendS dstOk dropOf
attribute [simp] low1 low0 lendOk1 lendOk0 nfP noRd2 noRd1 noRd0
attribute [simp] rnB nlB nfP PV.cells oneP parRegs resOf resV allRegs allObs lOk rn2 rn1 rn0 R.bad VR.bad Value.oneCell' flat0 flat1 flat2
attribute [simp] aMakeMap aLenM findP keyD keyOk okV
attribute [simp] nilRd nilRd1 mapOb allW
attribute [simp] Jd.fn Jd.rd setRec argRegs frzSt frzO allLend allObsL nilSl nilOb
end Go.Proofs.Ytipolblhiljoiaa.Sy
