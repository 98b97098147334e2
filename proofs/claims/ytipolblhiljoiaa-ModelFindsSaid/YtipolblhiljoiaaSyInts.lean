/- Sy: rows of numbers; rows of records. -/
import Derived.Test.YtipolblhiljoiaaSyJunk
namespace Go.Proofs.Ytipolblhiljoiaa.Sy
open Go Go.RowKit
set_option linter.unusedVariables false
set_option linter.unusedSimpArgs false
abbrev intsR (l : List Int) : List (List PV) := rowsV (Value.int .i64) l
@[simp] theorem intsR_getQ {l : List Int} {i : Nat} (h : i < l.length) : (intsR l)[i]? = some [.val (.int .i64 l[i])] := by simp [rowsV, h]
@[simp] theorem intsR_take (l : List Int) (n : Nat) : (intsR l).take n = intsR (l.take n) := by simp [rowsV, List.map_take]
@[simp] theorem intsR_drop (l : List Int) (n : Nat) : (intsR l).drop n = intsR (l.drop n) := by simp [rowsV, List.map_drop]
@[simp] theorem intsR_app (l m : List Int) : intsR l ++ intsR m = intsR (l ++ m) := by simp [rowsV]
@[simp] theorem intsR_snoc (l : List Int) (a : Int) : intsR l ++ [[.val (.int .i64 a)]] = intsR (l ++ [a]) := by simp [rowsV]
theorem intsR_nil : intsR [] = [] := rfl
@[simp] theorem intsR_eq_nil (l : List Int) : intsR l = [] ↔ l = [] := by simp [rowsV]
@[simp] theorem intsR_set (l : List Int) (i : Nat) (a : Int) : (intsR l).set i [.val (.int .i64 a)] = intsR (l.set i a) := by simp [rowsV, List.map_set]
theorem intsR_ok (l : List Int) : RowsOk 1 (intsR l) := rowsV_ok (fun _ => rfl) l
@[simp ↓] theorem intsR_ok' (l : List Int) : RowsOk 1 (intsR l) ↔ True := ⟨fun _ => trivial, fun _ => intsR_ok l⟩
@[simp ↓] theorem intsR_nf' (l : List Int) : nfRows (intsR l) ↔ True := ⟨fun _ => trivial, fun _ r hr c hc => by
  obtain ⟨n, _, rfl⟩ := List.mem_map.1 hr
  simp only [List.mem_singleton] at hc
  rw [hc]; trivial⟩
theorem map_intsR {f : PV → PV} (hf : ∀ v, f (.val v) = .val v) (l : List Int) : (intsR l).map (List.map f) = intsR l := by
  unfold intsR rowsV
  rw [List.map_map]
  exact List.map_congr_left fun b _ => by simp [hf]
@[simp] theorem map_intsR_rn0 (π : Nat → Option Nat) (l : List Int) : (intsR l).map (List.map (rn0 π)) = intsR l := map_intsR (fun _ => rfl) l
@[simp] theorem map_intsR_low0 (obs : List (Nat × Ob)) (B : List Nat) (l : List Int) : (intsR l).map (List.map (low0 obs B)) = intsR l := map_intsR (fun _ => rfl) l

/-- Rows of records: one row for each. -/
class NiceRow {α : Type} (f : α → List PV) (sz : outParam Nat) : Prop where
  len : ∀ x, (f x).length = sz
  one : ∀ x, ∀ c ∈ f x, oneP c
  nf : ∀ x, ∀ c ∈ f x, nfP c
  rn : ∀ (π : Nat → Option Nat) x, (f x).map (rn0 π) = f x
  low : ∀ (obs : List (Nat × Ob)) (B : List Nat) x, (f x).map (low0 obs B) = f x
def rowsN {α : Type} (f : α → List PV) (l : List α) : List (List PV) := l.map f
section
variable {α : Type} {f : α → List PV} {sz : Nat}
@[simp] theorem rowsN_length (l : List α) : (rowsN f l).length = l.length := by simp [rowsN]
@[simp] theorem rowsN_getQ {l : List α} {i : Nat} (h : i < l.length) : (rowsN f l)[i]? = some (f l[i]) := by simp [rowsN, h]
@[simp] theorem rowsN_get {l : List α} {i : Nat} (h : i < (rowsN f l).length) : (rowsN f l)[i] = f (l[i]'(by simpa using h)) := by simp [rowsN]
@[simp] theorem rowsN_take (l : List α) (n : Nat) : (rowsN f l).take n = rowsN f (l.take n) := by simp [rowsN, List.map_take]
@[simp] theorem rowsN_drop (l : List α) (n : Nat) : (rowsN f l).drop n = rowsN f (l.drop n) := by simp [rowsN, List.map_drop]
@[simp] theorem rowsN_app (l m : List α) : rowsN f l ++ rowsN f m = rowsN f (l ++ m) := by simp [rowsN]
theorem rowsN_snoc (l : List α) (a : α) : rowsN f l ++ [f a] = rowsN f (l ++ [a]) := by simp [rowsN]
theorem rowsN_nil : rowsN f [] = [] := rfl
@[simp] theorem rowsN_eq_nil (l : List α) : rowsN f l = [] ↔ l = [] := by simp [rowsN]
theorem rowsN_set (l : List α) (i : Nat) (a : α) : (rowsN f l).set i (f a) = rowsN f (l.set i a) := by simp [rowsN, List.map_set]
@[simp ↓] theorem rowsN_ok' [h : NiceRow f sz] (l : List α) : RowsOk sz (rowsN f l) ↔ True := ⟨fun _ => trivial, fun _ r hr => by
  obtain ⟨x, _, rfl⟩ := List.mem_map.1 hr
  exact ⟨h.len x, h.one x⟩⟩
@[simp ↓] theorem rowsN_nf' [h : NiceRow f sz] (l : List α) : nfRows (rowsN f l) ↔ True := ⟨fun _ => trivial, fun _ r hr c hc => by
  obtain ⟨x, _, rfl⟩ := List.mem_map.1 hr
  exact h.nf x c hc⟩
@[simp] theorem rowsN_rn0 [h : NiceRow f sz] (π : Nat → Option Nat) (l : List α) : (rowsN f l).map (List.map (rn0 π)) = rowsN f l := by
  unfold rowsN
  rw [List.map_map]
  exact List.map_congr_left fun b _ => h.rn π b
@[simp] theorem rowsN_low0 [h : NiceRow f sz] (obs : List (Nat × Ob)) (B : List Nat) (l : List α) : (rowsN f l).map (List.map (low0 obs B)) = rowsN f l := by
  unfold rowsN
  rw [List.map_map]
  exact List.map_congr_left fun b _ => h.low obs B b
@[simp ↓] theorem RowsOk_append (n : Nat) (a b : List (List PV)) : RowsOk n (a ++ b) ↔ RowsOk n a ∧ RowsOk n b := by
  unfold RowsOk
  exact ⟨fun h => ⟨fun r hr => h r (List.mem_append_left _ hr), fun r hr => h r (List.mem_append_right _ hr)⟩, fun h r hr => (List.mem_append.1 hr).elim (h.1 r) (h.2 r)⟩
@[simp] theorem names0_rowsN [h : NiceRow f sz] (l : List α) (k j : Nat) : names0 (((rowsN f l)[k]?.getD [])[j]?.getD .un) = [] := by
  by_cases hk : k < l.length
  · rw [rowsN_getQ hk]
    simp only [Option.getD_some]
    cases e : (f l[k])[j]? with
    | none => rfl
    | some c => exact names0_nf (h.nf _ c (List.mem_of_getElem? e))
  · have e : (rowsN f l)[k]? = none := List.getElem?_eq_none (by rw [rowsN_length]; omega)
    rw [e]; simp
@[simp] theorem names0_intsR (l : List Int) (k j : Nat) : names0 (((intsR l)[k]?.getD [])[j]?.getD .un) = [] := by
  by_cases h : k < l.length
  · rw [intsR_getQ h]
    simp only [Option.getD_some]
    cases j <;> simp
  · have e : (intsR l)[k]? = none := List.getElem?_eq_none (by rw [rowsV_length]; omega)
    rw [e]; simp
end
/-- What lies in rows may be lent. -/
def lendRows (obs : List (Nat × Ob)) (B : List Nat) (rows : List (List PV)) : Prop := ∀ r ∈ rows, ∀ c ∈ r, lendOk0 obs B c
theorem nf_lend {obs : List (Nat × Ob)} {B : List Nat} {c : PV} (h : nfP c) : lendOk0 obs B c := by
  cases c <;> first | trivial | exact h.elim
section
variable {obs : List (Nat × Ob)} {B : List Nat}
@[simp] theorem lendRows_nil : lendRows obs B [] ↔ True := ⟨fun _ => trivial, fun _ r h => (by cases h)⟩
@[simp] theorem lendRows_cons (r : List PV) (rs : List (List PV)) : lendRows obs B (r :: rs) ↔ (∀ c ∈ r, lendOk0 obs B c) ∧ lendRows obs B rs := by simp [lendRows]
@[simp] theorem lendRows_app (a b : List (List PV)) : lendRows obs B (a ++ b) ↔ lendRows obs B a ∧ lendRows obs B b := by
  unfold lendRows
  exact ⟨fun h => ⟨fun r hr => h r (List.mem_append_left _ hr), fun r hr => h r (List.mem_append_right _ hr)⟩, fun h r hr => (List.mem_append.1 hr).elim (h.1 r) (h.2 r)⟩
theorem lendRows_of_nf {rows : List (List PV)} (h : nfRows rows) : lendRows obs B rows := fun r hr c hc => nf_lend (h r hr c hc)
@[simp ↓] theorem lendRows_N {α : Type} {f : α → List PV} {sz : Nat} [h : NiceRow f sz] (l : List α) : lendRows obs B (rowsN f l) ↔ True := ⟨fun _ => trivial, fun _ r hr c hc => by
  obtain ⟨x, _, rfl⟩ := List.mem_map.1 hr
  exact nf_lend (h.nf x c hc)⟩
@[simp ↓] theorem lendRows_strs (l : List ByteArray) : lendRows obs B (strs l) ↔ True := ⟨fun _ => trivial, fun _ => lendRows_of_nf ((strs_nf' l).2 trivial)⟩
@[simp ↓] theorem lendRows_ints (l : List Int) : lendRows obs B (intsR l) ↔ True := ⟨fun _ => trivial, fun _ => lendRows_of_nf ((intsR_nf' l).2 trivial)⟩
end
def allObsN (obs : List (Nat × Ob)) (B : List Nat) : List (Nat × Ob) → Prop
  | [] => True
  | (m, x) :: r => (match lookO obs m with
    | some ob => m ∉ B ∧ ob.k = .cells ∧ x.k = .cells ∧ x.T = ob.T ∧ x.sz = ob.sz ∧ x.rows = ob.rows.map (List.map (low0 obs B)) ∧ RowsOk x.sz x.rows ∧ lendRows obs B ob.rows
    | none => False) ∧ allObsN obs B r
theorem allObsN_L {obs : List (Nat × Ob)} {B : List Nat} : ∀ {l : List (Nat × Ob)}, allObsN obs B l → allObsL obs B l
  | [], _ => trivial
  | (m, x) :: r, h => ⟨h.1, allObsN_L h.2⟩
attribute [simp] allObsN
/-- As Wk.frz, where the other blocks' rows are records. -/
theorem Wk.frzN {base : Nat} (B : List Nat) {st st' : St} (hn : st'.n = st.n) (hw : st'.new = st.new) (hB : ∀ n ∈ B, ∃ o, lookO st.obs n = some o ∧ nfRows o.rows) (hregs : allLend st.obs B st.regs st'.regs) (hobs : allObsN st.obs B st'.obs) : Wk base st st' :=
  .frz B hn hw hB hregs (allObsN_L hobs)
/-- A function's end: blocks go out as rows that nobody writes to; all others are let go. -/
theorem retR.frzD {P : Program} {res : List ResultVar} {r : PV} {pre : List (Nat × Ob)} {e : Exit} {st : St} (B ts : List Nat) (he : e = .normal ∨ e = .ret) (hB : ∀ n ∈ B, ∃ o, lookO st.obs n = some o ∧ nfRows o.rows) (hregs : allLend st.obs B st.regs (frzSt B ts st).regs)
    (h : resOf P ⟨st.n, (frzSt B ts st).regs, [], st.new⟩ res fun l => resV l = r ∧ rn2 (fwdN []) r = r) : retR P res r pre [] e st :=
  .wk ⟨st.n, (frzSt B ts st).regs, [], st.new⟩ (Wk.frz B rfl rfl hB hregs trivial) he h
end Go.Proofs.Ytipolblhiljoiaa.Sy
