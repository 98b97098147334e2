/- Sy: rows of plain values; contracts of the library's; a law's call. -/
import Derived.Test.YtipolblhiljoiaaSyTwo
import Derived.IntWalk
namespace Go.Proofs.Ytipolblhiljoiaa.Sy
open Go Go.RowKit
set_option linter.unusedVariables false
set_option linter.unusedSimpArgs false

/-- Rows of one plain value each. -/
def rowsV {α : Type} (f : α → Value) (xs : List α) : List (List PV) := xs.map fun x => [.val (f x)]
@[simp] theorem rowsV_length {α : Type} (f : α → Value) (xs : List α) : (rowsV f xs).length = xs.length := by simp [rowsV]
@[simp] theorem rowsV_get {α : Type} {f : α → Value} {xs : List α} {i : Nat} (h : i < (rowsV f xs).length) : (rowsV f xs)[i] = [.val (f (xs[i]'(by simpa using h)))] := by simp [rowsV]
theorem rowsV_flatten {α : Type} (f : α → Value) (xs : List α) : (rowsV f xs).flatten = xs.map fun x => PV.val (f x) := by
  induction xs with
  | nil => rfl
  | cons x xs ih => simp only [rowsV, List.map_cons, List.flatten_cons] at ih ⊢; rw [ih]; rfl
theorem rowsV_ok {α : Type} {f : α → Value} (h1 : ∀ x, (f x).oneCell' = true) (xs : List α) : RowsOk 1 (rowsV f xs) := by
  intro r hr
  obtain ⟨x, _, rfl⟩ := List.mem_map.1 hr
  exact ⟨rfl, fun c hc => by rw [List.mem_singleton.1 hc]; exact h1 x⟩
@[simp] theorem bytesI_length (s : ByteArray) : (bytesI s).length = s.size := by
  show (s.data.toList.map _).length = _
  rw [List.length_map, Array.length_toList]; rfl
@[simp] theorem brow_length (s : ByteArray) : (brow s).length = s.size := by
  show ((bytesI s).map u8row).length = _
  rw [List.length_map, bytesI_length]
theorem brow_getQ {s : ByteArray} {i : Nat} (h : i < s.size) : (brow s)[i]? = some [.val (.int .u8 (btv s i))] := by
  have h' : i < s.data.toList.length := by rw [Array.length_toList]; exact h
  unfold brow bytesI
  rw [List.getElem?_map, List.getElem?_map, List.getElem?_eq_getElem h']
  simp only [Option.map_some, u8row, btv, Int.toNat_natCast, List.getD_eq_getElem?_getD, List.getElem?_eq_getElem h', Option.getD_some]
@[simp] theorem brow_get {s : ByteArray} {i : Nat} (h : i < (brow s).length) : (brow s)[i] = [.val (.int .u8 (btv s i))] := by
  have := brow_getQ (s := s) (i := i) (by simpa using h)
  rw [List.getElem?_eq_getElem h] at this
  exact Option.some.inj this
theorem btv_range (s : ByteArray) (i : Int) : 0 ≤ btv s i ∧ btv s i < 256 := by
  unfold btv
  have := (s.data.toList.getD i.toNat 0).toNat_lt
  omega
theorem below_fr {C C' : Cx} (h : Below C.W.heap.size C.W C'.W) (hd : C.W.drawn ≤ C'.W.drawn) (M : Nat → Prop) : Fr M C.W C'.W :=
  ⟨h.os, h.tape, h.output, hd, h.size, fun b hb _ => h.block b hb, fun b cur T fz hh => ⟨cur, fz, (h.block b (Array.getElem?_eq_some_iff.1 hh).1).trans hh, rfl⟩⟩
theorem postOk_below {C C' : Cx} (h : Below C.W.heap.size C.W C'.W) (hd : C.W.drawn ≤ C'.W.drawn) (hsub : ∀ b, C'.S b → b < C'.W.heap.size) (hold : ∀ b, C'.S b → b < C.W.heap.size → C.S b) : PostOk C [] C' [] :=
  ⟨⟨fun nm ob h => (by cases h), fun nm nm' b ob ob' h => (by cases h)⟩, hsub, fun b h1 h2 => .inl (hold b h1 h2), fun nm ob b h => (by cases h), fun nm ob b h => (by cases h), below_fr h hd _⟩
/-- A contract whose result is a plain value. -/
theorem CallTo.of_val {P : Program} {f : FuncId} {args : List PV} {r : Value} (hent : entersB P f = true) (h : ∀ (C : Cx) (vs : List Value), ReL C args vs → Calls P f vs.toArray C.W fun e W' => e = .returned r ∧ Below C.W.heap.size C.W W' ∧ C.W.drawn ≤ W'.drawn) :
    CallOk P f args [] (.val r) [] := by
  refine ⟨hent, fun C vs hargs hob hsub hsm => (h C vs hargs).mono fun e W' ⟨he, hb, hd⟩ => ?_⟩
  refine ⟨r, ⟨W', C.ρ, C.S⟩, he, rfl, .val _, postOk_below (C' := ⟨W', C.ρ, C.S⟩) hb hd (fun b h => Nat.lt_of_lt_of_le (hsub b h) hb.size) (fun b h _ => h)⟩
/-- What a law's row asks for. -/
theorem law_calls {P : Program} {f : FuncId} {args : List PV} {vs : List Value} {W : World} {S : Nat → Prop} (h : CallOk P f args [] (.val (.bool true)) []) (hargs : ReL ⟨W, fun _ => none, S⟩ args vs) (hS : ∀ b, S b → b < W.heap.size) :
    Calls P f vs.toArray W fun e W' => e = .returned (.bool true) ∧ Below W.heap.size W W' := by
  refine (h.2 ⟨W, fun _ => none, S⟩ vs hargs ⟨fun nm ob h => (by cases h), fun nm nm' b ob ob' h => (by cases h)⟩ hS (fun n _ => rfl)).mono ?_
  rintro e W' ⟨v, C', he, rfl, hr, hp⟩
  cases hr
  refine ⟨he, ⟨hp.fr.os, hp.fr.tape, hp.fr.output, hp.fr.size, fun k hk => hp.fr.block k hk (fun ⟨nm, ob, h1, _⟩ => by cases h1)⟩⟩
abbrev strs (l : List ByteArray) : List (List PV) := rowsV Value.string l
theorem w64 {n : Int} (h0 : -9223372036854775808 ≤ n) (h : n < 9223372036854775808) : IntKind.i64.wrap n = n := by
  rw [IntKind.wrap_i64]; omega
theorem reL1 {C : Cx} {p : PV} {vs : List Value} (h : ReL C [p] vs) : ∃ v, vs = [v] ∧ Re C p v := by
  obtain ⟨hl, hh⟩ := h
  cases vs with
  | nil => simp at hl
  | cons v vs =>
    cases vs with
    | nil => exact ⟨v, rfl, hh 0 (by simp) (by simp)⟩
    | cons _ _ => simp at hl
theorem reL0 {C : Cx} {vs : List Value} (h : ReL C [] vs) : vs = [] := List.eq_nil_of_length_eq_zero h.1.symm
theorem reL2 {C : Cx} {p q : PV} {vs : List Value} (h : ReL C [p, q] vs) : ∃ v w, vs = [v, w] ∧ Re C p v ∧ Re C q w := by
  obtain ⟨hl, hh⟩ := h
  match vs, hl, hh with
  | [v, w], hl, hh => exact ⟨v, w, rfl, hh 0 (by simp) (by simp), hh 1 (by simp) (by simp)⟩
@[simp] theorem ren_ap (b : Nat) (l : List (Nat × Nat)) (n : Nat) : ren b l n = if n < b then some n else fwdN l n := rfl
@[simp] theorem unren_ap (b : Nat) (l : List (Nat × Nat)) (n : Nat) : unren b l n = if n < b then some n else backN l n := rfl
@[simp] theorem fwdN_nil (n : Nat) : fwdN [] n = none := rfl
@[simp] theorem backN_nil (n : Nat) : backN [] n = none := rfl
@[simp] theorem fwdN_cons (k j : Nat) (r : List (Nat × Nat)) (n : Nat) : fwdN ((k, j) :: r) n = if k = n then some j else fwdN r n := by
  unfold fwdN
  by_cases e : k = n
  · subst e; simp
  · rw [List.find?_cons_of_neg (by simpa using e), if_neg e]
@[simp] theorem backN_cons (k j : Nat) (r : List (Nat × Nat)) (m : Nat) : backN ((k, j) :: r) m = if j = m then some k else backN r m := by
  unfold backN
  by_cases e : j = m
  · subst e; simp
  · rw [List.find?_cons_of_neg (by simpa using e), if_neg e]
@[simp] theorem names0_strip (b : Bool) (v : Value) : names0 (strip (.cnd b (.val v))) = [] := by cases b <;> rfl
@[simp] theorem RowsOk_nil (n : Nat) : RowsOk n [] ↔ True := ⟨fun _ => trivial, fun _ r h => (by cases h)⟩
@[simp] theorem RowsOk_cons (n : Nat) (r : List PV) (rs : List (List PV)) : RowsOk n (r :: rs) ↔ RowOk n r ∧ RowsOk n rs := by simp [RowsOk]
@[simp] theorem postK_cells (sz : Nat) (rows : List (List PV)) : postK .cells sz rows ↔ RowsOk sz rows := Iff.rfl
@[simp] theorem postK_map (sz : Nat) (rows : List (List PV)) : postK .map sz rows ↔ True := Iff.rfl
attribute [simp] RowOk piOk outAll keepAll preAll smallAll postAll postU preU
@[simp] theorem nfRows_nil : nfRows [] ↔ True := ⟨fun _ => trivial, fun _ r h => (by cases h)⟩
@[simp] theorem nfRows_cons (r : List PV) (rs : List (List PV)) : nfRows (r :: rs) ↔ (∀ c ∈ r, nfP c) ∧ nfRows rs := by simp [nfRows]
attribute [simp] rnOb
@[simp] theorem outN_ap (π : List (Nat × Nat)) (new j : Nat) : outN π new j = match backN π j with
  | some n => some n
  | none => if j < 8 then some (new + j) else none := rfl
/-- The same in a region whose order is drawn. -/
theorem callT.own {P : Program} {g : FuncId} {xs args : List PV} {st : St} {K : Tr → Prop} {r : PV} {pre post : List (Nat × Ob)} (B : List Nat) (π : List (Nat × Nat)) (h : CallOk P g args pre r post) (ha : xs.map (fun x => rn2 (fwdN π) (low1 st.obs B x)) = args)
    (hl : ∀ x ∈ xs, lendOk1 st.obs B x) (hnf : ∀ n ∈ B, ∃ o, lookO st.obs n = some o ∧ o.k = .cells ∧ nfRows o.rows) (hap : ∀ n ∈ B, fwdN π n = none) (hpi : piOk π) (hpre : preAll π st.obs pre) (hsm : smallAll st.new pre π) (hpost : postAll π st.new post)
    (hrd : B = [] ∨ noRd2 r ∧ ∀ j ob, lookO post j = some ob → noRdRows ob.rows) (hu : uOk (preU π ++ postU π st.new post) (st.new + 8)) (hK : K ⟨rn2 (outN π st.new) r, preU π ++ postU π st.new post, B ++ π.map (·.1) ++ (preU π ++ postU π st.new post).map (·.1)⟩) : callT P g xs st K :=
  ⟨B, π, args, pre, r, post, h, ⟨ha, hl, hnf, hap, hpre.at, fun n j hj => hsm.at n j ((hpi.mem.1 n j).1 hj), hpi.inj, hrd, hpost.at⟩, hu, hK⟩
end Go.Proofs.Ytipolblhiljoiaa.Sy
