/- Sy: from printed contracts to Sy's, and from Sy's to a law's row. -/
import Derived.Test.YtpmjnggkhjjiaaaSyTwo
import Derived.Test.YtpmjnggkhjjiaaaWMore
namespace Go.Proofs.Ytpmjnggkhjjiaaa.Sy
open Go Go.RowKit Go.Proofs.YtpmjnggkhjjiaaaW.PrintWords
set_option linter.unusedVariables false
set_option linter.unusedSimpArgs false

/-- Rows of one plain value each. -/
def rowsV {α : Type} (f : α → Value) (xs : List α) : List (List PV) := xs.map fun x => [.val (f x)]
@[simp] theorem rowsV_length {α : Type} (f : α → Value) (xs : List α) : (rowsV f xs).length = xs.length := by simp [rowsV]
@[simp] theorem rowsV_get {α : Type} {f : α → Value} {xs : List α} {i : Nat} (h : i < (rowsV f xs).length) : (rowsV f xs)[i] = [.val (f (xs[i]'(by simpa using h)))] := by simp [rowsV]
theorem rowsV_flatten {α : Type} (f : α → Value) (xs : List α) : (rowsV f xs).flatten = xs.map fun x => PV.val (f x) := by
  induction xs with
  | nil => rfl
  | cons x xs ih => simp only [rowsV, List.map_cons, List.flatten_cons] at ih ⊢; rw [ih]; rfl
theorem rowsV_ok {α : Type} {f : α → Value} (h1 : ∀ x, (f x).oneCell' = true) (xs : List α) : RowsOk 1 (rowsV f xs) := by
  intro r hr
  obtain ⟨x, _, rfl⟩ := List.mem_map.1 hr
  exact ⟨rfl, fun c hc => by rw [List.mem_singleton.1 hc]; exact h1 x⟩
/-- A row that reads so, as plain values: its block is fit to be written to by nobody. -/
theorem re_of_reads {α : Type} {f : α → Value} (h1 : ∀ x, (f x).oneCell' = true) {w : World} {A : Option Addr} {n cap : Nat} {xs : List α} (h : ReadsRow (fun x cs => cs = [f x]) 1 w A n xs) (hc : n ≤ cap) {C : Cx} (hW : C.W = w)
    (hS : ∀ ad, A = some ad → 0 < n → C.S ad.block) : Re C (.rd 1 (rowsV f xs)) (.slice A n cap) := by
  obtain ⟨hl, hm, hr⟩ := h
  by_cases h0 : 0 < n
  · obtain ⟨ad, rfl, hcells⟩ := hr h0
    obtain ⟨b, o, sp⟩ := ad
    have hall : ∀ j (hj : j < xs.length), w.cell? ((⟨b, o, sp⟩ : Addr).add j) = some (f xs[j]) := fun j hj => by
      obtain ⟨c, c1, c2, c3⟩ := hcells j xs[j] (List.getElem?_eq_getElem hj)
      have := c3 0 (f xs[j]) (by rw [c2]; rfl)
      simpa using this
    have hsp : sp = none := by
      have := hall 0 (by omega)
      rw [show (⟨b, o, sp⟩ : Addr).add 0 = ⟨b, o, sp⟩ from rfl] at this
      unfold World.cell? at this
      split at this
      · split at this
        · cases this
        · rename_i hs; cases sp with | none => rfl | some _ => simp at hs
      · cases this
    subst hsp
    simp only [add_plain] at hall
    obtain ⟨cur, T, fz, hb⟩ : ∃ cur T fz, w.heap[b]? = some (.cells cur T fz) := by
      have := hall 0 (by omega)
      unfold World.cell? at this
      split at this
      · rename_i c T fz hh; exact ⟨c, T, fz, hh⟩
      · cases this
    have hat : ∀ j (hj : j < xs.length), cur[o + j]? = some (f xs[j]) := fun j hj => by
      have := hall j hj
      unfold World.cell? at this
      rw [hb] at this
      simpa using this
    have hfl : (rowsV f xs).flatten.length = xs.length := by rw [rowsV_flatten, List.length_map]
    have htake : (cur.toList.drop o).take (rowsV f xs).flatten.length = xs.map f := by
      rw [hfl]
      apply List.ext_getElem?
      intro j
      by_cases hj : j < xs.length
      · rw [List.getElem?_take_of_lt hj, List.getElem?_drop, Array.getElem?_toList, hat j hj, List.getElem?_map, List.getElem?_eq_getElem hj]; rfl
      · rw [List.getElem?_take_eq_none (by omega), List.getElem?_eq_none (by simp; omega)]
    have := Re.rd (C := C) (sz := 1) (rows := rowsV f xs) (b := b) (o := o) (cap := cap) (cur := cur) (T := T) (fz := fz) (hS ⟨b, o, none⟩ rfl h0) (by rw [hW]; exact hb) (rowsV_ok h1 xs) htake (by rw [rowsV_length]; omega) (by rw [hfl, List.length_map]) (fun i i1 i2 => by
      have i1' : i < xs.length := hfl ▸ i1
      have e1 : (rowsV f xs).flatten[i] = PV.val (f xs[i]) := by
        have h3 : (rowsV f xs).flatten[i]? = (xs.map fun x => PV.val (f x))[i]? := by rw [rowsV_flatten]
        rw [List.getElem?_eq_getElem i1, List.getElem?_map, List.getElem?_eq_getElem i1'] at h3
        exact Option.some.inj h3
      rw [e1, List.getElem_map]
      exact .val _)
    rw [rowsV_length, hl] at this
    exact this
  · have : n = 0 := by omega
    subst this
    have : xs = [] := List.eq_nil_of_length_eq_zero (by omega)
    subst this
    exact .rd0
/-- The other way. -/
theorem reads_of_re {α : Type} {f : α → Value} {xs : List α} {C : Cx} {v : Value} (h : Re C (.rd 1 (rowsV f xs)) v) (hm : xs.length ≤ 9223372036854775807) : ∃ A cap, v = .slice A xs.length cap ∧ xs.length ≤ cap ∧ ReadsRow (fun x cs => cs = [f x]) 1 C.W A xs.length xs := by
  generalize hp : PV.rd 1 (rowsV f xs) = p at h
  cases h with
  | rd hb hc hrow hx hcap hl hh =>
    cases hp
    rename_i b o cap cur T fz vs
    refine ⟨_, cap, by rw [rowsV_length], by rw [rowsV_length] at hcap; exact hcap, rfl, hm, fun _ => ⟨_, rfl, fun j p hj => ⟨[f p], rfl, rfl, fun i u hu => ?_⟩⟩⟩
    cases i with
    | succ i => simp at hu
    | zero =>
      simp only [List.getElem?_cons_zero, Option.some.injEq] at hu
      subst hu
      have hjl : j < xs.length := (List.getElem?_eq_some_iff.1 hj).1
      have hfl : (rowsV f xs).flatten.length = xs.length := by rw [rowsV_flatten, List.length_map]
      have i1 : j < (rowsV f xs).flatten.length := by rw [hfl]; exact hjl
      have i2 : j < vs.length := by rw [← hl]; exact i1
      have h3 := hh j i1 i2
      have e1 : (rowsV f xs).flatten[j] = PV.val (f p) := by
        have h4 : (rowsV f xs).flatten[j]? = some (PV.val (f p)) := by rw [rowsV_flatten, List.getElem?_map, hj]; rfl
        rw [List.getElem?_eq_getElem i1] at h4
        exact Option.some.inj h4
      rw [e1] at h3
      have h5 : vs[j] = f p := by generalize vs[j] = z at h3; cases h3; rfl
      have h6 : cur[o + j]? = some (f p) := by
        have : vs[j]? = some (f p) := by rw [List.getElem?_eq_getElem i2, h5]
        rw [← hx, List.getElem?_take_of_lt i1, List.getElem?_drop, Array.getElem?_toList] at this
        exact this
      simp only [Nat.mul_one, Nat.add_zero, add_plain]
      unfold World.cell?
      rw [hc]
      simpa using h6
  | rd0 =>
    rename_i sz A cap
    have hx : xs = [] := by
      have : rowsV f xs = [] := by injection hp
      exact List.eq_nil_of_length_eq_zero (by rw [← rowsV_length f xs, this]; rfl)
    subst hx
    exact ⟨A, cap, rfl, Nat.zero_le _, rfl, by simp, fun h => by simp at h⟩
  | _ => cases hp
theorem below_fr {C C' : Cx} (h : Below C.W.heap.size C.W C'.W) (M : Nat → Prop) : Fr M C.W C'.W :=
  ⟨h.os, h.tape, h.output, h.size, fun b hb _ => h.block b hb, fun b cur T fz hh => ⟨cur, fz, (h.block b (Array.getElem?_eq_some_iff.1 hh).1).trans hh, rfl⟩⟩
theorem postOk_below {C C' : Cx} (h : Below C.W.heap.size C.W C'.W) (hsub : ∀ b, C'.S b → b < C'.W.heap.size) (hold : ∀ b, C'.S b → b < C.W.heap.size → C.S b) : PostOk C [] C' [] :=
  ⟨⟨fun nm ob h => (by cases h), fun nm nm' b ob ob' h => (by cases h)⟩, hsub, fun b h1 h2 => .inl (hold b h1 h2), fun nm ob b h => (by cases h), fun nm ob b h => (by cases h), below_fr h _⟩
/-- A contract whose result is a plain value. -/
theorem CallOk.of_val {P : Program} {f : FuncId} {args : List PV} {r : Value} (hent : entersB P f = true) (h : ∀ (C : Cx) (vs : List Value), ReL C args vs → Calls P f vs.toArray C.W fun e W' => e = .returned r ∧ Below C.W.heap.size C.W W') :
    CallOk P f args [] (.val r) [] := by
  refine ⟨hent, fun C vs hargs hob hsub hsm => (h C vs hargs).mono fun e W' ⟨he, hb⟩ => ?_⟩
  refine ⟨r, ⟨W', C.ρ, C.S⟩, he, rfl, .val _, postOk_below (C' := ⟨W', C.ρ, C.S⟩) hb (fun b h => Nat.lt_of_lt_of_le (hsub b h) hb.size) (fun b h _ => h)⟩
/-- A contract whose results are a row of plain values, that lies in blocks of the call's own, and a plain value. -/
theorem CallOk.of_row {P : Program} {f : FuncId} {args : List PV} {α : Type} {g : α → Value} (h1 : ∀ x, (g x).oneCell' = true) {xs : List α} {r : Value} (hent : entersB P f = true)
    (h : ∀ (C : Cx) (vs : List Value), ReL C args vs → Calls P f vs.toArray C.W fun e W' => ∃ A cap, e = .returned (.tuple #[.slice A xs.length cap, r]) ∧ xs.length ≤ cap ∧ ReadsRow (fun x cs => cs = [g x]) 1 W' A xs.length xs ∧ (∀ ad, A = some ad → 0 < xs.length → C.W.heap.size ≤ ad.block) ∧ Below C.W.heap.size C.W W') :
    CallOk P f args [] (.tup [.rd 1 (rowsV g xs), .val r]) [] := by
  refine ⟨hent, fun C vs hargs hob hsub hsm => (h C vs hargs).mono fun e W' ⟨A, cap, he, hcap, hrd, hfresh, hb⟩ => ?_⟩
  obtain ⟨S', hS'⟩ : ∃ S' : Nat → Prop, S' = fun b => C.S b ∨ ∃ ad, A = some ad ∧ 0 < xs.length ∧ ad.block = b := ⟨_, rfl⟩
  have hlt : ∀ ad, A = some ad → 0 < xs.length → ad.block < W'.heap.size := fun ad hA h0 => by
    obtain ⟨_, _, hr⟩ := hrd
    obtain ⟨ad', e1, hc⟩ := hr h0
    rw [hA] at e1; cases e1
    obtain ⟨c, c1, c2, c3⟩ := hc 0 xs[0] (List.getElem?_eq_getElem h0)
    have := c3 0 (g xs[0]) (by rw [c2]; rfl)
    simp only [Nat.zero_mul, Nat.add_zero] at this
    exact World.block_lt_of_cell? W' _ this
  refine ⟨_, ⟨W', C.ρ, S'⟩, he, rfl, ?_, postOk_below (C' := ⟨W', C.ρ, S'⟩) hb ?_ ?_⟩
  · refine Re.tup (cs := [_, _]) (vs := [_, _]) rfl (fun i i1 i2 => ?_)
    cases i with
    | zero => exact re_of_reads h1 hrd hcap rfl (fun ad hA h0 => by rw [hS']; exact .inr ⟨ad, hA, h0, rfl⟩)
    | succ i =>
      cases i with
      | zero => exact .val _
      | succ i => simp at i1; omega
  · intro b hb'
    rw [hS'] at hb'
    rcases hb' with h | ⟨ad, hA, h0, rfl⟩
    · exact Nat.lt_of_lt_of_le (hsub b h) hb.size
    · exact hlt ad hA h0
  · intro b hb' hlt'
    rw [hS'] at hb'
    rcases hb' with h | ⟨ad, hA, h0, rfl⟩
    · exact h
    · have := hfresh ad hA h0; omega
/-- What a law's row asks for. -/
theorem law_calls {P : Program} {f : FuncId} {args : List PV} {vs : List Value} {W : World} {S : Nat → Prop} (h : CallOk P f args [] (.val (.bool true)) []) (hargs : ReL ⟨W, fun _ => none, S⟩ args vs) (hS : ∀ b, S b → b < W.heap.size) :
    Calls P f vs.toArray W fun e W' => e = .returned (.bool true) ∧ Below W.heap.size W W' := by
  refine (h.2 ⟨W, fun _ => none, S⟩ vs hargs ⟨fun nm ob h => (by cases h), fun nm nm' b ob ob' h => (by cases h)⟩ hS (fun n _ => rfl)).mono ?_
  rintro e W' ⟨v, C', he, rfl, hr, hp⟩
  cases hr
  refine ⟨he, ⟨hp.fr.os, hp.fr.tape, hp.fr.output, hp.fr.size, fun k hk => hp.fr.block k hk (fun ⟨nm, ob, h1, _⟩ => by cases h1)⟩⟩
/-- A parameter's block. -/
def rowS (A : Option Addr) (n : Nat) : Nat → Prop := fun b => ∃ ad, A = some ad ∧ 0 < n ∧ ad.block = b
theorem rowS_lt {α : Type} {f : α → Value} {w : World} {A : Option Addr} {n : Nat} {xs : List α} (h : ReadsRow (fun x cs => cs = [f x]) 1 w A n xs) : ∀ b, rowS A n b → b < w.heap.size := by
  rintro b ⟨ad, rfl, h0, rfl⟩
  obtain ⟨hl, _, hr⟩ := h
  obtain ⟨ad', e1, hc⟩ := hr h0
  cases e1
  obtain ⟨c, c1, c2, c3⟩ := hc 0 xs[0] (List.getElem?_eq_getElem (by omega))
  have := c3 0 (f xs[0]) (by rw [c2]; rfl)
  simp only [Nat.zero_mul, Nat.add_zero] at this
  exact World.block_lt_of_cell? w _ this
end Go.Proofs.Ytpmjnggkhjjiaaa.Sy
