/- Sy: a small program logic: states of a walk, what one operation does to them. -/
import Derived.Test.YtipolblhiljoiaaProg
import Derived.CallsIn
import Derived.TacticsIn
import Derived.OwnWalkIn
import Derived.Laws.MakeOwn
import Derived.Laws.AppendOwn
import Derived.Laws.OwnMore
import Derived.Laws.IdiomStrings
import Derived.Laws.BytesArg
import Derived.WalkKit
import Derived.Lib.AppendStr
import Derived.Laws.StructEq
import Derived.ChangeKeysEq
import Derived.MapKept
import Derived.WideMake
import Derived.RangeFuncRecord
import Derived.RangeFuncSeq
namespace Go.Proofs.Ytipolblhiljoiaa.Sy
open Go
set_option linter.unusedVariables false

/-- A value as a walk knows it: a plain one; a struct's cells; several results; a slice that nobody writes to (its rows), a place in one; a place in a named block, a slice of one; a function and what it has captured, or what is bound ahead of its arguments; the yield of a loop whose record is a named block; a map that lies in one; a slice of no elements that has no room; whatever. -/
inductive PV where
  | val (v : Value)
  | agg (cs : List PV)
  | tup (vs : List PV)
  | rd (sz : Nat) (rows : List (List PV))
  | rp (sz : Nat) (rows : List (List PV)) (row off : Nat)
  | ref (nm sz row off : Nat)
  | sl (nm sz off len : Nat)
  | clo (f : FuncId) (caps : List PV)
  | bnd (f : FuncId) (first : List PV)
  | yld (nm : Nat)
  | mp (nm : Nat)
  | nl
  | anyB
  | any1
  | cnd (b : Bool) (p : PV)
  | un
instance : Inhabited PV := ⟨.un⟩

/-- The record of a loop over a function: the temporaries that each round begins with, and how it stands. -/
structure RecI where
  n : Nat
  regs : List (Nat × PV)
  tm : Array Value
  fn : FuncId
  ps : Array Tmp
  asg : Code
  body : Code
  dfs : Nat
  st : LoopState
  pend : Option Code
def RecI.loop (r : RecI) : Loop := { state := r.st, pending := r.pend, fn := r.fn, tmps := r.tm, params := r.ps, assign := r.asg, body := r.body, defers := r.dfs }
/-- What kind of block it is: cells; a map's entries; a loop's record. -/
inductive OK where
  | cells
  | map
  | loop (r : RecI)
/-- A named block: of which type, how many cells an element has, the elements. -/
structure Ob where
  T : TypeId
  sz : Nat
  rows : List (List PV)
  k : OK

structure Cx where
  W : World
  ρ : Nat → Option Nat
  S : Nat → Prop

/-- What may lie in one cell. -/
def oneP : PV → Prop
  | .val v => v.oneCell' = true
  | .agg _ | .tup _ | .un | .cnd _ _ => False
  | _ => True
def RowOk (sz : Nat) (r : List PV) : Prop := r.length = sz ∧ ∀ c ∈ r, oneP c
def RowsOk (sz : Nat) (rows : List (List PV)) : Prop := ∀ r ∈ rows, RowOk sz r

/-- The same without names: what lies in a slice that nobody writes to has none. -/
def Cx.nn (C : Cx) : Cx := ⟨C.W, fun _ => none, C.S⟩

inductive Re : Cx → PV → Value → Prop
  | val {C : Cx} (v : Value) : Re C (.val v) v
  | agg {C : Cx} {cs : List PV} {vs : List Value} (hl : cs.length = vs.length) (h : ∀ i (h1 : i < cs.length) (h2 : i < vs.length), Re C cs[i] vs[i]) : Re C (.agg cs) (.agg vs.toArray)
  | tup {C : Cx} {cs : List PV} {vs : List Value} (hl : cs.length = vs.length) (h : ∀ i (h1 : i < cs.length) (h2 : i < vs.length), Re C cs[i] vs[i]) : Re C (.tup cs) (.tuple vs.toArray)
  | rd {C : Cx} {sz : Nat} {rows : List (List PV)} {b o cap : Nat} {cur : Array Value} {T : TypeId} {fz : Nat × Nat} {xs : List Value} (hb : C.S b) (hc : C.W.heap[b]? = some (.cells cur T fz)) (hrow : RowsOk sz rows)
      (hx : (cur.toList.drop o).take rows.flatten.length = xs) (hcap : rows.length ≤ cap) (hl : rows.flatten.length = xs.length) (h : ∀ i (h1 : i < rows.flatten.length) (h2 : i < xs.length), Re C.nn rows.flatten[i] xs[i]) :
      Re C (.rd sz rows) (.slice (some ⟨b, o, none⟩) rows.length cap)
  | rd0 {C : Cx} {sz : Nat} {a : Option Addr} {cap : Nat} : Re C (.rd sz []) (.slice a 0 cap)
  | rp {C : Cx} {sz : Nat} {rows : List (List PV)} {row off : Nat} {b o : Nat} {cur : Array Value} {T : TypeId} {fz : Nat × Nat} {xs : List Value} (hb : C.S b) (hc : C.W.heap[b]? = some (.cells cur T fz)) (hrow : RowsOk sz rows)
      (hx : (cur.toList.drop o).take rows.flatten.length = xs) (hl : rows.flatten.length = xs.length) (h : ∀ i (h1 : i < rows.flatten.length) (h2 : i < xs.length), Re C.nn rows.flatten[i] xs[i]) :
      Re C (.rp sz rows row off) (.pointer (some ⟨b, o + (row * sz + off), none⟩))
  | ref {C : Cx} {nm sz row off b : Nat} (hb : C.ρ nm = some b) : Re C (.ref nm sz row off) (.pointer (some ⟨b, row * sz + off, none⟩))
  | sl {C : Cx} {nm sz off len cap b : Nat} {cur : Array Value} {T : TypeId} {fz : Nat × Nat} (hb : C.ρ nm = some b) (hc : C.W.heap[b]? = some (.cells cur T fz)) (hlen : len ≤ cap) (hmax : cap ≤ maxLen) (hfit : (off + cap) * sz ≤ cur.size) :
      Re C (.sl nm sz off len) (.slice (some ⟨b, off * sz, none⟩) len cap)
  | sl0 {C : Cx} {nm sz off : Nat} {a : Option Addr} : Re C (.sl nm sz off 0) (.slice a 0 0)
  | clo {C : Cx} {f : FuncId} {caps : List PV} {vs : List Value} (hl : caps.length = vs.length) (h : ∀ i (h1 : i < caps.length) (h2 : i < vs.length), Re C caps[i] vs[i]) : Re C (.clo f caps) (.func (.func f) #[] vs.toArray)
  | bnd {C : Cx} {f : FuncId} {first : List PV} {vs : List Value} (hl : first.length = vs.length) (h : ∀ i (h1 : i < first.length) (h2 : i < vs.length), Re C first[i] vs[i]) : Re C (.bnd f first) (.func (.func f) vs.toArray #[])
  | yld {C : Cx} {nm b : Nat} (hb : C.ρ nm = some b) : Re C (.yld nm) (.func (.yield b) #[] #[])
  | mp {C : Cx} {nm b : Nat} (hb : C.ρ nm = some b) : Re C (.mp nm) (.map (some b))
  | nl {C : Cx} {a : Option Addr} : Re C .nl (.slice a 0 0)
  | anyB {C : Cx} (t : Bool) : Re C .anyB (.bool t)
  | any1 {C : Cx} {v : Value} (h1 : v.oneCell' = true) : Re C .any1 v
  | cndT {C : Cx} {p : PV} {v : Value} (h : Re C p v) : Re C (.cnd true p) v
  | cndF {C : Cx} {p : PV} : Re C (.cnd false p) undef
  | un {C : Cx} (v : Value) : Re C .un v

/-- Rows of cells keep their size and their kind. -/
def Shp (W W' : World) : Prop := ∀ (b : Nat) (cur : Array Value) (T : TypeId) (fz : Nat × Nat), W.heap[b]? = some (.cells cur T fz) → ∃ cur' fz', W'.heap[b]? = some (.cells cur' T fz') ∧ cur'.size = cur.size
theorem Shp.refl (W : World) : Shp W W := fun b cur T fz h => ⟨cur, fz, h, rfl⟩
theorem Shp.trans {a b c : World} (h : Shp a b) (k : Shp b c) : Shp a c := fun i cur T fz hh => by
  obtain ⟨c1, f1, h1, e1⟩ := h i cur T fz hh
  obtain ⟨c2, f2, h2, e2⟩ := k i c1 T f1 h1
  exact ⟨c2, f2, h2, e2.trans e1⟩
structure Cx.le (C C' : Cx) : Prop where
  S : ∀ b cur T fz, C.S b → C.W.heap[b]? = some (.cells cur T fz) → C'.S b ∧ C'.W.heap[b]? = some (.cells cur T fz)
  ρ : ∀ n b, C.ρ n = some b → C'.ρ n = some b
  shp : Shp C.W C'.W
theorem Cx.le.mk' {C C' : Cx} (S : ∀ b, C.S b → C'.S b) (W : ∀ b, C.S b → C'.W.heap[b]? = C.W.heap[b]?) (ρ : ∀ n b, C.ρ n = some b → C'.ρ n = some b) (shp : Shp C.W C'.W) : C.le C' :=
  ⟨fun b cur T fz h1 h2 => ⟨S b h1, (W b h1).trans h2⟩, ρ, shp⟩
theorem Cx.le.refl (C : Cx) : C.le C := ⟨fun _ _ _ _ h k => ⟨h, k⟩, fun _ _ h => h, Shp.refl _⟩
theorem Cx.le.trans {a b c : Cx} (h : a.le b) (k : b.le c) : a.le c :=
  ⟨fun i cur T fz h1 h2 => k.S i cur T fz (h.S i cur T fz h1 h2).1 (h.S i cur T fz h1 h2).2, fun n i hi => k.ρ n i (h.ρ n i hi), h.shp.trans k.shp⟩
theorem Cx.le.nn {C C' : Cx} (h : C.le C') : C.nn.le C'.nn := ⟨h.S, fun _ _ hh => (by cases hh), h.shp⟩
theorem Cx.nn_le (C : Cx) : C.nn.le C := ⟨fun _ _ _ _ h k => ⟨h, k⟩, fun _ _ hh => (by cases hh), Shp.refl _⟩
theorem Re.mono {C C' : Cx} (hle : C.le C') {p : PV} {v : Value} (h : Re C p v) : Re C' p v := by
  induction h generalizing C' with
  | val v => exact .val v
  | agg hl _ ih => exact .agg hl (fun i h1 h2 => ih i h1 h2 hle)
  | tup hl _ ih => exact .tup hl (fun i h1 h2 => ih i h1 h2 hle)
  | rd hb hc hrow hx hcap hl _ ih => exact .rd (hle.S _ _ _ _ hb hc).1 (hle.S _ _ _ _ hb hc).2 hrow hx hcap hl (fun i h1 h2 => ih i h1 h2 hle.nn)
  | rd0 => exact .rd0
  | rp hb hc hrow hx hl _ ih => exact .rp (hle.S _ _ _ _ hb hc).1 (hle.S _ _ _ _ hb hc).2 hrow hx hl (fun i h1 h2 => ih i h1 h2 hle.nn)
  | ref hb => exact .ref (hle.ρ _ _ hb)
  | sl hb hc hlen hmax hfit =>
    obtain ⟨cur', fz', h', e⟩ := hle.shp _ _ _ _ hc
    exact .sl (hle.ρ _ _ hb) h' hlen hmax (by rw [e]; exact hfit)
  | sl0 => exact .sl0
  | clo hl _ ih => exact .clo hl (fun i h1 h2 => ih i h1 h2 hle)
  | bnd hl _ ih => exact .bnd hl (fun i h1 h2 => ih i h1 h2 hle)
  | yld hb => exact .yld (hle.ρ _ _ hb)
  | mp hb => exact .mp (hle.ρ _ _ hb)
  | nl => exact .nl
  | anyB t => exact .anyB t
  | any1 h1 => exact .any1 h1
  | cndT _ ih => exact .cndT (ih hle)
  | cndF => exact .cndF
  | un v => exact .un v
/-- Several values, one by one. -/
def ReL (C : Cx) (ps : List PV) (vs : List Value) : Prop := ps.length = vs.length ∧ ∀ i (h1 : i < ps.length) (h2 : i < vs.length), Re C ps[i] vs[i]
theorem ReL.mono {C C' : Cx} (hle : C.le C') {p : List PV} {v : List Value} (h : ReL C p v) : ReL C' p v := ⟨h.1, fun i h1 h2 => (h.2 i h1 h2).mono hle⟩
theorem ReL.nil (C : Cx) : ReL C [] [] := ⟨rfl, fun i h1 => absurd h1 (by simp)⟩
theorem ReL.cons {C : Cx} {p : PV} {v : Value} {ps : List PV} {vs : List Value} (h : Re C p v) (hs : ReL C ps vs) : ReL C (p :: ps) (v :: vs) := by
  refine ⟨by simp [hs.1], fun i h1 h2 => ?_⟩
  cases i with
  | zero => exact h
  | succ i => exact hs.2 i (by simpa using h1) (by simpa using h2)
theorem ReL.head {C : Cx} {p : PV} {v : Value} {ps : List PV} {vs : List Value} (h : ReL C (p :: ps) (v :: vs)) : Re C p v ∧ ReL C ps vs :=
  ⟨h.2 0 (by simp) (by simp), by simpa using h.1, fun i h1 h2 => h.2 (i + 1) (by simpa using h1) (by simpa using h2)⟩
theorem ReL.append {C : Cx} {p q : List PV} {v u : List Value} (h : ReL C p v) (k : ReL C q u) : ReL C (p ++ q) (v ++ u) := by
  refine ⟨by simp [h.1, k.1], fun i h1 h2 => ?_⟩
  by_cases e : i < p.length
  · rw [List.getElem_append_left e, List.getElem_append_left (by rw [← h.1]; exact e)]
    exact h.2 i e _
  · rw [List.getElem_append_right (by omega), List.getElem_append_right (by rw [← h.1]; omega)]
    simp only [h.1]
    exact k.2 _ (by rw [List.length_append] at h1; have := h.1; omega) _
theorem ReL.take {C : Cx} {p : List PV} {v : List Value} (h : ReL C p v) (n : Nat) : ReL C (p.take n) (v.take n) := by
  refine ⟨by simp [h.1], fun i h1 h2 => ?_⟩
  rw [List.getElem_take, List.getElem_take]
  exact h.2 i _ _
theorem ReL.drop {C : Cx} {p : List PV} {v : List Value} (h : ReL C p v) (n : Nat) : ReL C (p.drop n) (v.drop n) := by
  refine ⟨by simp [h.1], fun i h1 h2 => ?_⟩
  rw [List.getElem_drop, List.getElem_drop]
  exact h.2 _ _ _
theorem Re.one {C : Cx} {p : PV} {v : Value} (h : Re C p v) (ho : oneP p) : v.oneCell' = true := by
  cases h <;> first | exact ho | exact ho.elim | rfl | assumption
theorem flatten_length {sz : Nat} : ∀ {rows : List (List PV)}, RowsOk sz rows → rows.flatten.length = rows.length * sz
  | [], _ => by simp
  | r :: rows, h => by
    rw [List.flatten_cons, List.length_append, flatten_length (fun x hx => h x (List.mem_cons_of_mem _ hx)), (h r List.mem_cons_self).1, List.length_cons, Nat.succ_mul]; omega
theorem flatten_drop {sz : Nat} : ∀ {rows : List (List PV)} (i : Nat), RowsOk sz rows → rows.flatten.drop (i * sz) = (rows.drop i).flatten
  | [], i, _ => by simp
  | r :: rows, 0, h => by simp
  | r :: rows, i + 1, h => by
    have hr := (h r List.mem_cons_self).1
    rw [List.flatten_cons, Nat.succ_mul, Nat.add_comm, ← List.drop_drop, List.drop_left' hr, List.drop_succ_cons]
    exact flatten_drop i (fun x hx => h x (List.mem_cons_of_mem _ hx))
theorem flatten_take {sz : Nat} : ∀ {rows : List (List PV)} (i : Nat), RowsOk sz rows → rows.flatten.take (i * sz) = (rows.take i).flatten
  | [], i, _ => by simp
  | r :: rows, 0, h => by simp
  | r :: rows, i + 1, h => by
    have hr := (h r List.mem_cons_self).1
    rw [List.flatten_cons, Nat.succ_mul, Nat.add_comm, List.take_add, List.take_left' hr, List.drop_left' hr, List.take_succ_cons, List.flatten_cons]
    rw [flatten_take i (fun x hx => h x (List.mem_cons_of_mem _ hx))]
theorem RowsOk.take {sz : Nat} {rows : List (List PV)} (h : RowsOk sz rows) (n : Nat) : RowsOk sz (rows.take n) := fun r hr => h r (List.mem_of_mem_take hr)
theorem RowsOk.drop {sz : Nat} {rows : List (List PV)} (h : RowsOk sz rows) (n : Nat) : RowsOk sz (rows.drop n) := fun r hr => h r (List.mem_of_mem_drop hr)
theorem RowsOk.append {sz : Nat} {a b : List (List PV)} (h : RowsOk sz a) (k : RowsOk sz b) : RowsOk sz (a ++ b) := fun r hr => (List.mem_append.1 hr).elim (h r) (k r)
theorem RowsOk.one {sz : Nat} {rows : List (List PV)} (h : RowsOk sz rows) : ∀ c ∈ rows.flatten, oneP c := by
  intro c hc
  obtain ⟨r, hr, hcr⟩ := List.mem_flatten.1 hc
  exact (h r hr).2 c hcr
theorem ReL.one {C : Cx} {ps : List PV} {vs : List Value} (h : ReL C ps vs) (ho : ∀ c ∈ ps, oneP c) : ∀ v ∈ vs, v.oneCell' = true := by
  intro v hv
  obtain ⟨i, hi, rfl⟩ := List.getElem_of_mem hv
  exact (h.2 i (by rw [h.1]; exact hi) hi).one (ho _ (List.getElem_mem _))

def look : List (Nat × PV) → Nat → PV
  | [], _ => .un
  | (k, v) :: r, t => if k = t then v else look r t
/-- Cells as they lie: nobody else's, not shared with a text. A block of no elements need not lie anywhere. -/
def CellsOk (C : Cx) (nm : Nat) (ob : Ob) : Prop :=
  (C.ρ nm = none ∧ ob.rows = []) ∨
   ∃ b cur, C.ρ nm = some b ∧ ¬ C.S b ∧ C.W.heap[b]? = some (.cells cur ob.T (0, 0)) ∧ ReL C ob.rows.flatten (cur.toList.take ob.rows.flatten.length)
def mapCells (es : Array MapEntry) : List Value := es.toList.flatMap fun e => [e.key, e.val]
def MapOk (C : Cx) (nm : Nat) (ob : Ob) : Prop := (∀ r ∈ ob.rows, r.length = 2) ∧ ∃ b es clock, C.ρ nm = some b ∧ ¬ C.S b ∧ C.W.heap[b]? = some (.map es clock) ∧ ReL C ob.rows.flatten (mapCells es)
def RegsOk (C : Cx) (regs : List (Nat × PV)) (tm : Array Value) : Prop := ∀ t, Re C (look regs t) (tm.getD t undef)
def LoopOk (C : Cx) (nm : Nat) (ob : Ob) (r : RecI) : Prop := ob.rows = [] ∧ r.tm.size = r.n ∧ RegsOk C r.regs r.tm ∧ ∃ b, C.ρ nm = some b ∧ ¬ C.S b ∧ C.W.heap[b]? = some (.loop r.loop)
/-- A named block as it lies. -/
def ObOk (C : Cx) (nm : Nat) (ob : Ob) : Prop := match ob.k with
  | .cells => RowsOk ob.sz ob.rows ∧ CellsOk C nm ob
  | .map => MapOk C nm ob
  | .loop r => LoopOk C nm ob r
theorem ObOk.cells {C : Cx} {nm : Nat} {ob : Ob} (h : ObOk C nm ob) (hk : ob.k = .cells) : RowsOk ob.sz ob.rows ∧ CellsOk C nm ob := by
  unfold ObOk at h; rw [hk] at h; exact h
theorem ObOk.of_cells {C : Cx} {nm : Nat} {ob : Ob} (hk : ob.k = .cells) (h : RowsOk ob.sz ob.rows) (h' : CellsOk C nm ob) : ObOk C nm ob := by
  unfold ObOk; rw [hk]; exact ⟨h, h'⟩
theorem ObOk.map {C : Cx} {nm : Nat} {ob : Ob} (h : ObOk C nm ob) (hk : ob.k = .map) : MapOk C nm ob := by
  unfold ObOk at h; rw [hk] at h; exact h
theorem ObOk.loop {C : Cx} {nm : Nat} {ob : Ob} {r : RecI} (h : ObOk C nm ob) (hk : ob.k = .loop r) : LoopOk C nm ob r := by
  unfold ObOk at h; rw [hk] at h; exact h
/-- What may lie in a named block. -/
def isHeld : Obj → Prop
  | .cells _ _ fz => fz = (0, 0)
  | .map _ _ => True
  | .loop _ => True
  | _ => False
theorem ObOk.blk {C : Cx} {nm b : Nat} {ob : Ob} (h : ObOk C nm ob) (hb : C.ρ nm = some b) : ¬ C.S b ∧ ∃ o, C.W.heap[b]? = some o ∧ isHeld o := by
  unfold ObOk at h
  split at h
  · rcases h.2 with ⟨h, _⟩ | ⟨b', cur, h3, h4, h5, h6⟩
    · rw [hb] at h; cases h
    · rw [hb] at h3; cases h3; exact ⟨h4, _, h5, rfl⟩
  · obtain ⟨_, b', es, cl, h3, h4, h5, _⟩ := h
    rw [hb] at h3; cases h3; exact ⟨h4, _, h5, trivial⟩
  · obtain ⟨_, _, _, b', h3, h4, h5⟩ := h
    rw [hb] at h3; cases h3; exact ⟨h4, _, h5, trivial⟩
theorem ObOk.lt {C : Cx} {nm b : Nat} {ob : Ob} (h : ObOk C nm ob) (hb : C.ρ nm = some b) : b < C.W.heap.size := by
  obtain ⟨_, o, h1, _⟩ := h.blk hb
  exact (Array.getElem?_eq_some_iff.1 h1).1
theorem ObOk.not_deferred {C : Cx} {nm b : Nat} {ob : Ob} {ds : Option (List Deferred)} (h : ObOk C nm ob) (hb : C.ρ nm = some b) (hd : C.W.heap[b]? = some (.deferred ds)) : False := by
  obtain ⟨_, o, h1, h2⟩ := h.blk hb
  rw [hd] at h1; cases h1; exact h2
theorem RegsOk.mono {C C' : Cx} (hle : C.le C') {regs : List (Nat × PV)} {tm : Array Value} (h : RegsOk C regs tm) : RegsOk C' regs tm := fun t => (h t).mono hle
/-- A block that nobody touched lies as it lay. -/
theorem ObOk.frame {C C' : Cx} {nm : Nat} {ob : Ob} (h : ObOk C nm ob) (hle : C.le C') (hρ : C'.ρ nm = C.ρ nm) (hb : ∀ b, C.ρ nm = some b → ¬ C.S b → b < C.W.heap.size → (C'.W.heap[b]? = C.W.heap[b]? ∨ C.W.heap[b]? = some (.deferred (some []))) ∧ ¬ C'.S b) : ObOk C' nm ob := by
  have keep : ∀ b o, C.ρ nm = some b → ¬ C.S b → C.W.heap[b]? = some o → isHeld o → C'.W.heap[b]? = some o ∧ ¬ C'.S b := fun b o h1 h2 h3 h4 => by
    obtain ⟨h5, h6⟩ := hb b h1 h2 (Array.getElem?_eq_some_iff.1 h3).1
    refine ⟨?_, h6⟩
    rcases h5 with h5 | h5
    · exact h5.trans h3
    · rw [h5] at h3; cases h3; exact h4.elim
  unfold ObOk at *
  split
  · rename_i hk
    simp only [hk] at h
    refine ⟨h.1, ?_⟩
    rcases h.2 with ⟨h1, h2⟩ | ⟨b, cur, h1, h2, h3, h4⟩
    · exact .inl ⟨hρ.trans h1, h2⟩
    · obtain ⟨g1, g2⟩ := keep b _ h1 h2 h3 rfl
      exact .inr ⟨b, cur, hρ.trans h1, g2, g1, h4.mono hle⟩
  · rename_i hk
    simp only [hk] at h
    obtain ⟨h0, b, es, cl, h1, h2, h3, h4⟩ := h
    obtain ⟨g1, g2⟩ := keep b _ h1 h2 h3 trivial
    exact ⟨h0, b, es, cl, hρ.trans h1, g2, g1, h4.mono hle⟩
  · rename_i r hk
    simp only [hk] at h
    obtain ⟨h0, h0', h0'', b, h1, h2, h3⟩ := h
    obtain ⟨g1, g2⟩ := keep b _ h1 h2 h3 trivial
    exact ⟨h0, h0', h0''.mono hle, b, hρ.trans h1, g2, g1⟩

/-- What a walk leaves as it was: all that lay before it, but for the blocks in M. -/
structure Fr (M : Nat → Prop) (W W' : World) : Prop where
  os : W'.os = W.os
  tape : W'.tape = W.tape
  output : W'.output = W.output
  drawn : W.drawn ≤ W'.drawn
  size : W.heap.size ≤ W'.heap.size
  block : ∀ b, b < W.heap.size → ¬ M b → W'.heap[b]? = W.heap[b]?
  shp : Shp W W'
theorem Fr.refl (M : Nat → Prop) (W : World) : Fr M W W := ⟨rfl, rfl, rfl, Nat.le_refl _, Nat.le_refl _, fun _ _ _ => rfl, Shp.refl _⟩
theorem Fr.trans {M M' : Nat → Prop} {a b c : World} (h : Fr M a b) (k : Fr M' b c) (hM : ∀ i, i < a.heap.size → M' i → M i) : Fr M a c :=
  ⟨k.os.trans h.os, k.tape.trans h.tape, k.output.trans h.output, Nat.le_trans h.drawn k.drawn, Nat.le_trans h.size k.size, fun i hi hn => (k.block i (Nat.lt_of_lt_of_le hi h.size) (fun hm => hn (hM i hi hm))).trans (h.block i hi hn), h.shp.trans k.shp⟩

structure St where
  n : Nat
  regs : List (Nat × PV)
  obs : List (Nat × Ob)
  new : Nat
def lookO : List (Nat × Ob) → Nat → Option Ob
  | [], _ => none
  | (k, v) :: r, t => if k = t then some v else lookO r t
def dropO : List (Nat × Ob) → Nat → List (Nat × Ob)
  | [], _ => []
  | (k, v) :: r, t => if k = t then dropO r t else (k, v) :: dropO r t
abbrev Upd := List (Nat × Option Ob)
def applyU : List (Nat × Ob) → Upd → List (Nat × Ob)
  | o, [] => o
  | o, (n, none) :: u => applyU (dropO o n) u
  | o, (n, some b) :: u => applyU ((n, b) :: dropO o n) u
theorem lookO_dropO (l : List (Nat × Ob)) (n m : Nat) : lookO (dropO l n) m = if n = m then none else lookO l m := by
  induction l with
  | nil => simp [dropO, lookO]
  | cons x r ih =>
    obtain ⟨k, v⟩ := x
    unfold dropO
    by_cases h : k = n
    · rw [if_pos h, ih]
      by_cases h2 : n = m
      · rw [if_pos h2, if_pos h2]
      · rw [if_neg h2, if_neg h2, lookO, if_neg (by omega)]
    · rw [if_neg h, lookO, ih]
      by_cases h2 : k = m
      · rw [if_pos h2, if_neg (by omega), lookO, if_pos h2]
      · rw [if_neg h2, lookO, if_neg h2]
/-- What an update makes of a name. -/
def updAt (old : Option Ob) (n : Nat) : Upd → Option Ob
  | [] => old
  | (m, x) :: u => updAt (if m = n then x else old) n u
theorem lookO_applyU : ∀ (u : Upd) (l : List (Nat × Ob)) (m : Nat), lookO (applyU l u) m = updAt (lookO l m) m u
  | [], l, m => rfl
  | (n, none) :: u, l, m => by rw [applyU, lookO_applyU u, updAt, lookO_dropO]
  | (n, some b) :: u, l, m => by
    rw [applyU, lookO_applyU u, updAt, lookO, lookO_dropO]
    by_cases h : n = m
    · simp [h]
    · simp [h]

def cvt : Value → PV
  | .agg cs => .agg (cs.toList.map .val)
  | v => .val v
/-- What a guarded operation gave. -/
def strip : PV → PV
  | .cnd true p => p
  | .cnd false _ => .val undef
  | p => p
def unc (g : Bool) : PV → PV
  | .cnd b p => if b = g then p else if (!g || b) = true then p else strip (.cnd b p)
  | p => p
theorem Re.strip {C : Cx} {p : PV} {v : Value} (h : Re C p v) : Re C (Sy.strip p) v := by
  cases h with
  | cndT h => exact h
  | cndF => exact .val _
  | val v => exact .val v
  | agg a b => exact .agg a b
  | tup a b => exact .tup a b
  | rd a b c d e f g => exact .rd a b c d e f g
  | rd0 => exact .rd0
  | rp a b c d e f => exact .rp a b c d e f
  | ref a => exact .ref a
  | sl a b c d e => exact .sl a b c d e
  | sl0 => exact .sl0
  | clo a b => exact .clo a b
  | bnd a b => exact .bnd a b
  | yld a => exact .yld a
  | mp a => exact .mp a
  | nl => exact .nl
  | anyB t => exact .anyB t
  | any1 h1 => exact .any1 h1
  | un v => exact .un v
theorem unc_true (p : PV) : unc true p = strip p := by
  cases p with
  | cnd b p => cases b <;> simp [unc, strip]
  | _ => rfl
def evP (regs : List (Nat × PV)) : Operand → PV
  | .tmp t => strip (look regs t)
  | .const v => cvt v
  | .func f => .clo f []
  | .global _ => .un
/-- What an operand is where the guard holds. -/
def evS (g : Bool) (regs : List (Nat × PV)) : Operand → PV
  | .tmp t => unc g (look regs t)
  | .const v => cvt v
  | .func f => .clo f []
  | .global _ => .un
theorem evS_true (regs : List (Nat × PV)) : evS true regs = evP regs := by
  funext x
  cases x with
  | tmp t => exact unc_true _
  | _ => rfl
def St.put (st : St) : Option Tmp → PV → St
  | some d, v => { st with regs := (d, v) :: st.regs }
  | none, _ => st

/-- Where a walk began: in which world, which blocks it may write to, which ones nobody writes to, its names, and what was deferred ahead of it. -/
structure En where
  W0 : World
  M : Nat → Prop
  S0 : Nat → Prop
  ρ0 : Nat → Option Nat
  dfs : List Deferred
/-- The marks of loops over functions: nothing was deferred in them. -/
def Marks (n : Nat) (W : World) (bs ds : List Deferred) : Prop := ∃ Ds : List Nat, ds = Ds.map (fun D => { target := .collected D, args := #[] }) ++ bs ∧ Ds.Nodup ∧ ∀ D ∈ Ds, n ≤ D ∧ W.heap[D]? = some (.deferred (some []))
/-- The walk's state tells of the machine's: the blocks made since W0 may be the walk's own, and those in M. -/
structure Rel (E : En) (C : Cx) (st : St) (a : Act) : Prop where
  size : a.tmps.size = st.n
  regs : ∀ t, Re C (look st.regs t) (a.tmps.getD t undef)
  obs : ∀ nm ob, lookO st.obs nm = some ob → ObOk C nm ob
  inj : ∀ nm nm' b ob ob', lookO st.obs nm = some ob → lookO st.obs nm' = some ob' → C.ρ nm = some b → C.ρ nm' = some b → nm = nm'
  own : ∀ nm ob b, lookO st.obs nm = some ob → C.ρ nm = some b → E.M b ∨ E.W0.heap.size ≤ b
  sub : ∀ b, C.S b → b < C.W.heap.size
  fr : Fr E.M E.W0 C.W
  old : ∀ b, C.S b → b < E.W0.heap.size → E.S0 b ∨ E.M b
  up : ∀ b cur T fz, E.S0 b → E.W0.heap[b]? = some (.cells cur T fz) → C.S b
  keep : ∀ n b, E.ρ0 n = some b → C.ρ n = some b
  defs : Marks E.W0.heap.size C.W E.dfs a.defers
theorem Marks.of_fr {n : Nat} {W W' : World} {bs ds : List Deferred} (h : Marks n W bs ds) (hf : ∀ D, D < W.heap.size → W.heap[D]? = some (.deferred (some [])) → W'.heap[D]? = W.heap[D]?) : Marks n W' bs ds := by
  obtain ⟨Ds, h0, h1, h2⟩ := h
  exact ⟨Ds, h0, h1, fun D hD => ⟨(h2 D hD).1, (hf D (Array.getElem?_eq_some_iff.1 (h2 D hD).2).1 (h2 D hD).2).trans (h2 D hD).2⟩⟩

theorem Re.cvt {C : Cx} (v : Value) : Re C (Sy.cvt v) v := by
  unfold Sy.cvt
  split
  · rename_i cs
    have := Re.agg (C := C) (cs := cs.toList.map .val) (vs := cs.toList) (by simp) (fun i h1 h2 => by rw [List.getElem_map]; exact .val _)
    simpa using this
  · exact .val _
theorem Rel.eval {E : En} {C : Cx} {st : St} {a : Act} (h : Rel E C st a) (x : Operand) : Re C (evP st.regs x) (a.eval x) := by
  cases x with
  | tmp t => exact (h.regs t).strip
  | const v => exact Re.cvt v
  | global g => exact .un _
  | func f => exact .clo (vs := []) rfl (fun i h1 h2 => absurd h1 (by simp))
theorem getD_set (vs : Array Value) (d t : Nat) (x : Value) (h : d < vs.size) : (vs.setIfInBounds d x).getD t undef = if d = t then x else vs.getD t undef := by
  by_cases e : d = t
  · subst e; simp [h]
  · simp [e, Array.getElem?_setIfInBounds_ne e]
/-- A state for the walk's own step: a temporary gets a value; the blocks turn as told. -/
theorem Rel.put {E : En} {C : Cx} {st : St} {a : Act} (h : Rel E C st a) {d : Option Tmp} {v : PV} {x : Value} (hv : Re C v x) (hd : ∀ t, d = some t → t < st.n) : Rel E C (st.put d v) (a.put d x) := by
  cases d with
  | none => exact h
  | some t =>
    have ht : t < a.tmps.size := by rw [h.size]; exact hd t rfl
    refine ⟨by simp [Act.put, St.put, h.size], fun s => ?_, h.obs, h.inj, h.own, h.sub, h.fr, h.old, h.up, h.keep, h.defs⟩
    show Re C (look ((t, v) :: st.regs) s) ((a.tmps.setIfInBounds t x).getD s undef)
    rw [getD_set _ _ _ _ ht, look]
    by_cases e : t = s
    · rw [if_pos e, if_pos e]; exact hv
    · rw [if_neg e, if_neg e]; exact h.regs s
theorem Rel.cells {E : En} {C : Cx} {st : St} {a : Act} (h : Rel E C st a) {nm : Nat} {ob : Ob} (h1 : lookO st.obs nm = some ob) (hk : ob.k = .cells) : RowsOk ob.sz ob.rows ∧ CellsOk C nm ob := (h.obs nm ob h1).cells hk
theorem Rel.mark {E : En} {C : Cx} {st : St} {a : Act} (h : Rel E C st a) {b : Nat} {cur : Array Value} {T : TypeId} {fz : Nat × Nat} (h1 : E.S0 b) (h2 : E.W0.heap[b]? = some (.cells cur T fz)) : C.S b := h.up b cur T fz h1 h2
/-- Nothing but draws and new memory: all that was known is known. -/
theorem Rel.step {E : En} {C C' : Cx} {st : St} {a : Act} (h : Rel E C st a) (hle : C.le C') (hS : ∀ b, C'.S b → C.S b ∨ C.W.heap.size ≤ b ∧ b < C'.W.heap.size)
    (hup : ∀ b, C.S b → C'.S b) (hρ : ∀ nm ob, lookO st.obs nm = some ob → C'.ρ nm = C.ρ nm) (hfr : Fr (fun _ => False) C.W C'.W) : Rel E C' st a := by
  refine ⟨h.size, fun t => (h.regs t).mono hle, fun nm ob ho => ?_, ?_, ?_, fun b hb => ?_, h.fr.trans hfr (fun _ _ hm => hm.elim), fun b hb hlt => ?_, fun b cur T fz h1 h2 => hup b (h.up b cur T fz h1 h2), fun n b hn => hle.ρ _ _ (h.keep n b hn), h.defs.of_fr (fun D hD _ => hfr.block D hD (fun x => x))⟩
  · refine (h.obs nm ob ho).frame hle (hρ nm ob ho) (fun b h1 h2 hlt => ⟨.inl (hfr.block b hlt (fun x => x)), fun hs => ?_⟩)
    rcases hS b hs with h' | h'
    · exact h2 h'
    · omega
  · intro nm nm' b ob ob' h1 h2 h3 h4
    exact h.inj nm nm' b ob ob' h1 h2 ((hρ nm ob h1).symm.trans h3) ((hρ nm' ob' h2).symm.trans h4)
  · intro nm ob b h1 h2
    exact h.own nm ob b h1 ((hρ nm ob h1).symm.trans h2)
  · rcases hS b hb with h' | h'
    · exact Nat.lt_of_lt_of_le (h.sub b h') hfr.size
    · exact h'.2
  · rcases hS b hb with h' | h'
    · exact h.old b h' hlt
    · have := h.fr.size; omega
end Go.Proofs.Ytipolblhiljoiaa.Sy

namespace Go.Proofs.Ytipolblhiljoiaa.Sy
open Go Go.RowKit
set_option linter.unusedVariables false
set_option linter.unusedSimpArgs false

/-- The fences of plain walks: of functions, or of a round. -/
def Fw (r : Option Nat) : Fence := { Fence.wide with round := r }

structure R where
  ok : Prop
  v : PV
  u : Upd
def R.bad : R := ⟨False, .un, []⟩

/-- The machine does the operation so, whatever comes behind it. -/
def StepOk (P : Program) (E : En) (C : Cx) (st : St) (a : Act) (o : Oper) (new : Nat) (v : PV) (u : Upd) : Prop :=
  ∀ (r : Option Nat) (n : Nat) (next : Act → World → Prop) (Q : Exit → Act → World → Prop),
    (∀ x C', Re C' v x → Rel E C' { st with obs := applyU st.obs u } a → C.le C' → (∀ k, ¬ (new ≤ k ∧ k < new + 8) → lookO st.obs k = none → C'.ρ k = C.ρ k) → next (a.put o.dst x) C'.W) →
    o.wpIn (Fw r) n P a C.W next Q

section
variable {P : Program} {E : En} {C : Cx} {st : St} {a : Act} {o : Oper} {new : Nat} {v : PV} {u : Upd}
theorem StepOk.of_value (hd : ∀ c, o.op ≠ .defer c) {x : Value} {C' : Cx} (hrun : (execOp a.eval o).run P C.W = .ok (.value x) C'.W) (hv : Re C' v x)
    (hr : Rel E C' { st with obs := applyU st.obs u } a) (hle : C.le C') (hρ : ∀ k, ¬ (new ≤ k ∧ k < new + 8) → C'.ρ k = C.ρ k) : StepOk P E C st a o new v u := by
  intro r n next Q hK
  refine ⟨fun _ _ => trivial, ?_⟩
  rw [Oper.semAt_plain (Fw r) _ _ hd, hrun]
  exact hK x C' hv hr hle (fun k hk _ => hρ k hk)
theorem StepOk.of_skip (hd : ∀ c, o.op ≠ .defer c) {C' : Cx} (hrun : (execOp a.eval o).run P C.W = .ok .skip C'.W)
    (hr : Rel E C' { st with obs := applyU st.obs u } a) (hle : C.le C') (hρ : ∀ k, ¬ (new ≤ k ∧ k < new + 8) → C'.ρ k = C.ρ k) : StepOk P E C st a o new .un u := by
  intro r n next Q hK
  refine ⟨fun _ _ => trivial, ?_⟩
  rw [Oper.semAt_plain (Fw r) _ _ hd, hrun]
  exact hK undef C' (.un _) hr hle (fun k hk _ => hρ k hk)
/-- An operation that only looks. -/
theorem StepOk.of_look (hd : ∀ c, o.op ≠ .defer c) {x : Value} (hrun : (execOp a.eval o).run P C.W = .ok (.value x) C.W) (hv : Re C v x) (hr : Rel E C st a) : StepOk P E C st a o new v [] :=
  .of_value hd hrun hv hr (Cx.le.refl C) (fun _ _ => rfl)
end

/-! ### Plain values -/
def valsL : List PV → Option (List Value)
  | [] => some []
  | .val v :: r => (valsL r).map (v :: ·)
  | _ :: _ => none
def toV : PV → Option Value
  | .val v => some v
  | .agg cs => (valsL cs).map fun vs => .agg vs.toArray
  | _ => none
theorem valsL_eq {C : Cx} : ∀ (cs : List PV) (vs xs : List Value), ReL C cs vs → valsL cs = some xs → vs = xs
  | [], vs, xs, h, e => by
    obtain rfl : vs = [] := List.eq_nil_of_length_eq_zero h.1.symm
    simpa [valsL] using e
  | c :: cs, [], xs, h, e => absurd h.1 (by simp)
  | c :: cs, v :: vs, xs, h, e => by
    obtain ⟨h1, h2⟩ := h.head
    cases c with
    | val y =>
      simp only [valsL, Option.map_eq_some_iff] at e
      obtain ⟨ys, e1, e2⟩ := e
      cases h1
      rw [← e2, valsL_eq cs vs ys h2 e1]
    | _ => simp [valsL] at e
theorem toV_eq {C : Cx} {p : PV} {v x : Value} (h : Re C p v) (e : toV p = some x) : v = x := by
  cases h with
  | val v => simpa [toV] using e
  | agg hl hh =>
    simp only [toV, Option.map_eq_some_iff] at e
    obtain ⟨xs, e1, e2⟩ := e
    rw [← e2, valsL_eq _ _ xs ⟨hl, hh⟩ e1]
  | _ => simp [toV] at e
def semPure (P : Program) {α : Type} : Sem α → Option α
  | .pure a => some a
  | .program k => semPure P (k P)
  | _ => none
theorem semPure_run {P : Program} {α : Type} (W : World) : ∀ (s : Sem α) (x : α), semPure P s = some x → s.run P W = .ok x W
  | .pure a, x, h => by simp only [semPure, Option.some.injEq] at h; rw [h]; rfl
  | .program k, x, h => semPure_run W (k P) x h
/-- An operation on plain values alone, as the model runs it. -/
def scal (P : Program) (ev : Operand → PV) (o : Oper) : R :=
  match semPure P (execOp (fun x => (toV (ev x)).getD undef) o) with
  | some (.value x) => ⟨(∀ x ∈ o.op.operands, (toV (ev x)).isSome = true) ∧ (∀ c, o.op ≠ .defer c) ∧ (∀ cs b, o.op ≠ .select cs b), cvt x, []⟩
  | _ => .bad
theorem scal_ok {P : Program} {E : En} {C : Cx} {st : St} {a : Act} {o : Oper} {new : Nat} (hr : Rel E C st a)
    (h : (scal P (evP st.regs) o).ok) : StepOk P E C st a o new (scal P (evP st.regs) o).v (scal P (evP st.regs) o).u := by
  unfold scal at *
  split at h
  · rename_i x hx
    simp only [hx]
    obtain ⟨h1, h2, h3⟩ := h
    have he : execOp a.eval o = execOp (fun x => (toV (evP st.regs x)).getD undef) o := execOp_congr o h3 fun y hy => by
      obtain ⟨z, hz⟩ := Option.isSome_iff_exists.1 (h1 y hy)
      rw [hz, toV_eq (hr.eval y) hz]; rfl
    exact .of_look h2 (by rw [he]; exact semPure_run _ _ _ hx) (Re.cvt x) hr
  · exact h.elim

/-! ### What types are made of -/
def tsize (P : Program) (t : TypeId) : Option Nat := (P.info? t).map (·.size)
def tbytes (P : Program) (t : TypeId) : Option Nat := (P.info? t).map (·.bytes)
def vcells : Value → List Value
  | .agg cs => cs.toList
  | v => [v]
def PV.cells : PV → List PV
  | .agg cs => cs
  | v => [v]
def tzero (P : Program) (t : TypeId) : Option (List PV) := ((P.info? t).bind (·.zero)).map fun v => (cvt v).cells
def isAggD : TypeDesc → Bool
  | .struct _ | .array _ _ => true
  | _ => false
theorem isAgg_run {P : Program} {t : TypeId} {d : TypeDesc} (h : P.underlying t = some d) (W : World) : (isAgg t).run P W = .ok (isAggD d) W := by
  cases d <;> simp [isAgg, run_underlying h, isAggD]
theorem tsize_run {P : Program} {t n : Nat} (h : tsize P t = some n) (W : World) : (sizeOf t).run P W = .ok n W := by
  unfold tsize at h
  obtain ⟨i, hi, rfl⟩ := Option.map_eq_some_iff.1 h
  simp [sizeOf, typeInfo, hi]
theorem add_plain (b o n : Nat) : (⟨b, o, none⟩ : Addr).add n = ⟨b, o + n, none⟩ := by
  unfold Addr.add; split <;> simp_all
theorem cells_size {C : Cx} {p : PV} {v : Value} (h : Re C p v) (hp : ∀ c ∈ p.cells, oneP c) : ReL C p.cells v.cells.toList ∧ v.cells.size = p.cells.length := by
  cases h with
  | agg hl hh => exact ⟨⟨hl, hh⟩, by simp [PV.cells, Value.cells, hl]⟩
  | val v =>
    have := hp (PV.val v) (by simp [PV.cells])
    cases v <;> first | exact ⟨ReL.cons (Re.val _) (ReL.nil C), rfl⟩ | (simp [oneP, Value.oneCell'] at this)
  | tup hl hh => exact (hp _ (List.mem_singleton.2 rfl)).elim
  | cndT h => exact (hp _ (List.mem_singleton.2 rfl)).elim
  | cndF => exact (hp _ (List.mem_singleton.2 rfl)).elim
  | un v => exact (hp _ (List.mem_singleton.2 rfl)).elim
  | rd a b c d e f g => exact ⟨ReL.cons (Re.rd a b c d e f g) (ReL.nil C), rfl⟩
  | rd0 => exact ⟨ReL.cons Re.rd0 (ReL.nil C), rfl⟩
  | rp a b c d e f => exact ⟨ReL.cons (Re.rp a b c d e f) (ReL.nil C), rfl⟩
  | ref a => exact ⟨ReL.cons (Re.ref a) (ReL.nil C), rfl⟩
  | sl a b c d e => exact ⟨ReL.cons (Re.sl a b c d e) (ReL.nil C), rfl⟩
  | sl0 => exact ⟨ReL.cons Re.sl0 (ReL.nil C), rfl⟩
  | clo a b => exact ⟨ReL.cons (Re.clo a b) (ReL.nil C), rfl⟩
  | bnd a b => exact ⟨ReL.cons (Re.bnd a b) (ReL.nil C), rfl⟩
  | yld a => exact ⟨ReL.cons (Re.yld a) (ReL.nil C), rfl⟩
  | mp a => exact ⟨ReL.cons (Re.mp a) (ReL.nil C), rfl⟩
  | nl => exact ⟨ReL.cons Re.nl (ReL.nil C), rfl⟩
  | anyB t => exact ⟨ReL.cons (Re.anyB t) (ReL.nil C), rfl⟩
  | any1 h1 =>
    have hc : v.cells = #[v] := by cases v <;> first | rfl | (simp [Value.oneCell'] at h1)
    rw [hc]
    exact ⟨ReL.cons (Re.any1 h1) (ReL.nil C), rfl⟩

/-! ### New memory -/
/-- The walk's world with a new block at its end, of a new name. -/
def Cx.push (C : Cx) (nm : Nat) (o : Obj) : Cx := ⟨C.W.alloc o, fun k => if k = nm then some C.W.heap.size else C.ρ k, C.S⟩
theorem shp_alloc (W : World) (o : Obj) : Shp W (W.alloc o) := fun b cur T fz h =>
  ⟨cur, fz, (heap_alloc_old W o (Array.getElem?_eq_some_iff.1 h).1).trans h, rfl⟩
theorem Cx.le_push {C : Cx} {nm : Nat} {o : Obj} (hs : ∀ b, C.S b → b < C.W.heap.size) (hn : C.ρ nm = none) : C.le (C.push nm o) :=
  .mk' (fun _ h => h) (fun b hb => heap_alloc_old C.W o (hs b hb)) (fun n b h => by
    unfold Cx.push
    by_cases e : n = nm
    · subst e; rw [hn] at h; cases h
    · simp [e, h]) (shp_alloc _ _)
theorem fr_alloc (W : World) (o : Obj) : Fr (fun _ => False) W (W.alloc o) := ⟨rfl, rfl, rfl, Nat.le_refl _, by simp, fun b hb _ => heap_alloc_old W o hb, shp_alloc W o⟩
theorem Rel.pushO {E : En} {C : Cx} {st : St} {a : Act} (hr : Rel E C st a) {nm : Nat} {ob : Ob} {o : Obj}
    (hn : C.ρ nm = none) (hno : lookO st.obs nm = none) (hok : ObOk (C.push nm o) nm ob) :
    Rel E (C.push nm o) { st with obs := applyU st.obs [(nm, some ob)] } a := by
  have hle := Cx.le_push (o := o) hr.sub hn
  have hlk : ∀ m, lookO (applyU st.obs [(nm, some ob)]) m = if nm = m then some ob else lookO st.obs m := fun m => by
    rw [lookO_applyU]; rfl
  have hρ : ∀ m, m ≠ nm → (C.push nm o).ρ m = C.ρ m := fun m h => by simp [Cx.push, h]
  have hρ0 : (C.push nm o).ρ nm = some C.W.heap.size := by simp [Cx.push]
  refine ⟨hr.size, fun t => (hr.regs t).mono hle, ?_, ?_, ?_, ?_, hr.fr.trans (fr_alloc C.W _) (fun _ _ h => h.elim), hr.old, hr.up, fun n b h => hle.ρ n b (hr.keep n b h), hr.defs.of_fr (fun D hD _ => heap_alloc_old C.W _ hD)⟩
  · intro m ob' h
    simp only [hlk] at h
    by_cases e : nm = m
    · subst e
      rw [if_pos rfl] at h; cases h
      exact hok
    · rw [if_neg e] at h
      exact (hr.obs m ob' h).frame hle (hρ m (fun x => e x.symm)) (fun b h1 h2 hlt => ⟨.inl (heap_alloc_old C.W _ hlt), h2⟩)
  · intro m m' b ob ob' h1 h2 h3 h4
    simp only [hlk] at h1 h2
    by_cases e : nm = m
    · by_cases e' : nm = m'
      · omega
      · rw [if_neg e'] at h2
        rw [hρ m' (fun x => e' x.symm)] at h4
        subst e
        rw [hρ0] at h3
        have := (hr.obs m' ob' h2).lt h4
        simp only [Option.some.injEq] at h3
        omega
    · rw [if_neg e] at h1
      rw [hρ m (fun x => e x.symm)] at h3
      by_cases e' : nm = m'
      · subst e'
        rw [hρ0] at h4
        have := (hr.obs m ob h1).lt h3
        simp only [Option.some.injEq] at h4
        omega
      · rw [if_neg e'] at h2
        rw [hρ m' (fun x => e' x.symm)] at h4
        exact hr.inj m m' b ob ob' h1 h2 h3 h4
  · intro m ob b h1 h2
    simp only [hlk] at h1
    by_cases e : nm = m
    · subst e
      rw [hρ0] at h2
      simp only [Option.some.injEq] at h2
      exact .inr (by have := hr.fr.size; omega)
    · rw [if_neg e] at h1
      rw [hρ m (fun x => e x.symm)] at h2
      exact hr.own m ob b h1 h2
  · intro b hb
    have := hr.sub b hb
    show b < (C.W.alloc _).heap.size
    simp; omega
theorem Rel.push {E : En} {C : Cx} {st : St} {a : Act} (hr : Rel E C st a) {nm : Nat} {T sz : Nat} {rows : List (List PV)} {cur : Array Value}
    (hn : C.ρ nm = none) (hno : lookO st.obs nm = none) (hrow : RowsOk sz rows) (hc : ReL C rows.flatten (cur.toList.take rows.flatten.length)) :
    Rel E (C.push nm (.cells cur T (0, 0))) { st with obs := applyU st.obs [(nm, some ⟨T, sz, rows, .cells⟩)] } a := by
  refine hr.pushO hn hno ⟨hrow, .inr ⟨C.W.heap.size, cur, by simp [Cx.push], fun hs => ?_, heap_alloc_new C.W _, hc.mono (Cx.le_push hr.sub hn)⟩⟩
  have := hr.sub _ hs; omega
end Go.Proofs.Ytipolblhiljoiaa.Sy

namespace Go.Proofs.Ytipolblhiljoiaa.Sy
open Go Go.RowKit
set_option linter.unusedVariables false
set_option linter.unusedSimpArgs false

section
variable {P : Program} {E : En} {C : Cx} {st : St} {a : Act} {o : Oper} {new : Nat}

/-- A block's cells turn; it may get another name. -/
def Cx.row (C : Cx) (m b : Nat) (cur : Array Value) : Cx := ⟨C.W.setRow b cur, fun k => if k = m then some b else C.ρ k, C.S⟩
theorem shp_row {W : World} {b : Nat} {cur cur' : Array Value} {T : TypeId} {fz : Nat × Nat} (h : W.heap[b]? = some (.cells cur T fz)) (hs : cur'.size = cur.size) : Shp W (W.setRow b cur') := by
  intro k c T' f hk
  by_cases e : k = b
  · subst e
    rw [h] at hk; cases hk
    exact ⟨cur', fz, setRow_heap W k cur cur' T fz h, hs⟩
  · exact ⟨c, f, (setRow_other W b k cur' e).trans hk, rfl⟩
theorem Rel.mod (hr : Rel E C st a) {nm m b : Nat} {cur cur' : Array Value} {T : TypeId} {ob ob' : Ob} {u : Upd} (h1 : lookO st.obs nm = some ob) (h2 : C.ρ nm = some b)
    (h3 : C.W.heap[b]? = some (.cells cur T (0, 0))) (hT : ob'.T = T) (hs : cur'.size = cur.size) (hm : m = nm ∨ C.ρ m = none ∧ lookO st.obs m = none)
    (hk : ob.k = .cells) (hk' : ob'.k = .cells) (hu : ∀ k, lookO (applyU st.obs u) k = if k = m then some ob' else if k = nm then none else lookO st.obs k) (hrow : RowsOk ob'.sz ob'.rows)
    (hc : ReL C ob'.rows.flatten (cur'.toList.take ob'.rows.flatten.length)) :
    Rel E (C.row m b cur') { st with obs := applyU st.obs u } a ∧ C.le (C.row m b cur') := by
  have hnS : ¬ C.S b := ((hr.obs nm ob h1).blk h2).1
  have hρ : ∀ k, k ≠ m → (C.row m b cur').ρ k = C.ρ k := fun k h => by simp [Cx.row, h]
  have hρm : (C.row m b cur').ρ m = some b := by simp [Cx.row]
  have hle : C.le (C.row m b cur') := by
    refine .mk' (fun _ h => h) (fun k hk => setRow_other C.W b k cur' (fun e => hnS (e ▸ hk))) (fun n k h => ?_) (shp_row h3 hs)
    by_cases e : n = m
    · subst e
      rcases hm with rfl | ⟨hm, _⟩
      · rw [h2] at h; cases h; exact hρm
      · rw [hm] at h; cases h
    · exact (hρ n e).trans h
  have hlk : ∀ k ob'', lookO (applyU st.obs u) k = some ob'' → (k = m ∧ ob'' = ob') ∨ (k ≠ m ∧ k ≠ nm ∧ lookO st.obs k = some ob'') := by
    intro k ob'' h
    rw [hu] at h
    by_cases e : k = m
    · rw [if_pos e] at h; exact .inl ⟨e, (Option.some.inj h).symm⟩
    · rw [if_neg e] at h
      by_cases e2 : k = nm
      · rw [if_pos e2] at h; cases h
      · rw [if_neg e2] at h; exact .inr ⟨e, e2, h⟩
  refine ⟨⟨hr.size, fun t => (hr.regs t).mono hle, ?_, ?_, ?_, fun k hk => ?_, ?_, hr.old, hr.up, fun n b' h => hle.ρ n b' (hr.keep n b' h), hr.defs.of_fr (fun D hD hd' => setRow_other C.W b D cur' (fun e => by subst e; rw [h3] at hd'; cases hd'))⟩, hle⟩
  · intro k ob'' h
    rcases hlk k ob'' h with ⟨rfl, rfl⟩ | ⟨e, e2, h⟩
    · exact .of_cells hk' hrow (.inr ⟨b, cur', hρm, hnS, hT ▸ setRow_heap C.W b cur cur' T (0, 0) h3, hc.mono hle⟩)
    · refine (hr.obs k ob'' h).frame hle (hρ k e) (fun b2 h4 h5 _ => ⟨.inl (setRow_other C.W b b2 cur' (fun e3 => e2 (hr.inj k nm b ob'' ob h h1 (e3 ▸ h4) h2))), h5⟩)
  · intro k k' b2 ob1 ob2 g1 g2 g3 g4
    rcases hlk k ob1 g1 with ⟨rfl, rfl⟩ | ⟨e, e2, g1⟩
    · rcases hlk k' ob2 g2 with ⟨rfl, _⟩ | ⟨e', e2', g2⟩
      · rfl
      · rw [hρm] at g3; cases g3
        rw [hρ k' e'] at g4
        exact absurd (hr.inj k' nm b ob2 ob g2 h1 g4 h2) e2'
    · rw [hρ k e] at g3
      rcases hlk k' ob2 g2 with ⟨rfl, rfl⟩ | ⟨e', e2', g2⟩
      · rw [hρm] at g4; cases g4
        exact absurd (hr.inj k nm b ob1 ob g1 h1 g3 h2) e2
      · rw [hρ k' e'] at g4
        exact hr.inj k k' b2 ob1 ob2 g1 g2 g3 g4
  · intro k ob'' b2 g1 g2
    rcases hlk k ob'' g1 with ⟨rfl, rfl⟩ | ⟨e, e2, g1⟩
    · rw [hρm] at g2; cases g2
      exact hr.own nm ob b h1 h2
    · rw [hρ k e] at g2
      exact hr.own k ob'' b2 g1 g2
  · show k < (C.W.setRow b cur').heap.size
    rw [size_setRow]; exact hr.sub k hk
  · refine ⟨hr.fr.os, hr.fr.tape, hr.fr.output, hr.fr.drawn, ?_, fun k hk hM => ?_, hr.fr.shp.trans (shp_row h3 hs)⟩
    · show _ ≤ (C.W.setRow b cur').heap.size
      rw [size_setRow]; exact hr.fr.size
    · have : k ≠ b := fun e => by
        subst e
        rcases hr.own nm ob k h1 h2 with h | h
        · exact hM h
        · omega
      exact (setRow_other C.W b k cur' this).trans (hr.fr.block k hk hM)

/-! ### Boxes -/
def aBox (T : TypeId) (p : PV) (new : Nat) : R := ⟨∀ c ∈ p.cells, oneP c, .ref new p.cells.length 0 0, [(new, some ⟨T, p.cells.length, [p.cells], .cells⟩)]⟩
theorem box_ok {T : TypeId} {x : Operand} (hr : Rel E C st a) (ho : o.op = .box T x) (hn : C.ρ new = none) (hno : lookO st.obs new = none) (h : (aBox T (evP st.regs x) new).ok) :
    StepOk P E C st a o new (aBox T (evP st.regs x) new).v (aBox T (evP st.regs x) new).u := by
  obtain ⟨hc, hs⟩ := cells_size (hr.eval x) h
  have hrow : RowsOk (evP st.regs x).cells.length [(evP st.regs x).cells] := fun r hr' => by rw [List.mem_singleton.1 hr']; exact ⟨rfl, h⟩
  have hf : [(evP st.regs x).cells].flatten = (evP st.regs x).cells := by simp
  have hc' : ReL C [(evP st.regs x).cells].flatten ((a.eval x).cells.toList.take [(evP st.regs x).cells].flatten.length) := by
    rw [hf, List.take_of_length_le (by rw [← hc.1]; exact Nat.le_refl _)]; exact hc
  refine .of_value (C' := C.push new (.cells (a.eval x).cells T (0, 0))) (fun c => by rw [ho]; intro e; cases e) (x := .pointer (some ⟨C.W.heap.size, 0, none⟩)) ?_ ?_
    (hr.push hn hno hrow hc') (Cx.le_push hr.sub hn) (fun k hk => by have : k ≠ new := fun e => hk (by omega); simp [Cx.push, this])
  · simp [execOp, ho, Instr.box, newVar, newRow, Cx.push]
  · have := Re.ref (C := C.push new (.cells (a.eval x).cells T (0, 0))) (nm := new) (sz := (evP st.regs x).cells.length) (row := 0) (off := 0) (b := C.W.heap.size) (by simp [Cx.push])
    simpa [aBox] using this
def aAlloc (P : Program) (T : TypeId) (new : Nat) : R :=
  match tzero P T with
  | some z => ⟨∀ c ∈ z, oneP c, .ref new z.length 0 0, [(new, some ⟨T, z.length, [z], .cells⟩)]⟩
  | none => .bad
theorem alloc_ok {T : TypeId} (hr : Rel E C st a) (ho : o.op = .alloc T) (hn : C.ρ new = none) (hno : lookO st.obs new = none) (h : (aAlloc P T new).ok) :
    StepOk P E C st a o new (aAlloc P T new).v (aAlloc P T new).u := by
  unfold aAlloc at *
  cases hz : tzero P T with
  | none => rw [hz] at h; exact h.elim
  | some z =>
    rw [hz] at h
    simp only [] at h ⊢
    unfold tzero at hz
    obtain ⟨zv, h1, h2⟩ := Option.map_eq_some_iff.1 hz
    obtain ⟨i, hi, hzv⟩ := Option.bind_eq_some_iff.1 h1
    subst h2
    obtain ⟨hc, hs⟩ := cells_size (Re.cvt (C := C) zv) h
    have hrow : RowsOk (cvt zv).cells.length [(cvt zv).cells] := fun r hr' => by rw [List.mem_singleton.1 hr']; exact ⟨rfl, h⟩
    have hf : [(cvt zv).cells].flatten = (cvt zv).cells := by simp
    have hc' : ReL C [(cvt zv).cells].flatten (zv.cells.toList.take [(cvt zv).cells].flatten.length) := by
      rw [hf, List.take_of_length_le (by rw [← hc.1]; exact Nat.le_refl _)]; exact hc
    refine .of_value (C' := C.push new (.cells zv.cells T (0, 0))) (fun c => by rw [ho]; intro e; cases e) (x := .pointer (some ⟨C.W.heap.size, 0, none⟩)) ?_ ?_
      (hr.push hn hno hrow hc') (Cx.le_push hr.sub hn) (fun k hk => by have : k ≠ new := fun e => hk (by omega); simp [Cx.push, this])
    · simp [execOp, ho, Instr.alloc, newVar, newRow, Cx.push, zeroValue, typeInfo, hi, hzv]
    · have := Re.ref (C := C.push new (.cells zv.cells T (0, 0))) (nm := new) (sz := (cvt zv).cells.length) (row := 0) (off := 0) (b := C.W.heap.size) (by simp [Cx.push])
      simpa using this

/-! ### Loads -/
theorem cells_at {W : World} {b : Nat} {cur : Array Value} {T : TypeId} {fz : Nat × Nat} (hc : W.heap[b]? = some (.cells cur T fz)) (p : Nat) {xs : List Value} (hx : (cur.toList.drop p).take xs.length = xs) :
    ∀ j v, xs[j]? = some v → W.cell? ((⟨b, p, none⟩ : Addr).add j) = some v := by
  intro j v hj
  rw [add_plain]
  have hlt := (List.getElem?_eq_some_iff.1 hj).1
  rw [← hx, List.getElem?_take_of_lt hlt, List.getElem?_drop] at hj
  simp only [World.cell?, hc]
  simpa using hj
theorem row_cells {sz : Nat} {rows : List (List PV)} (h : RowsOk sz rows) {row : Nat} (hr : row < rows.length) (off n : Nat) (hn : off + n ≤ sz) :
    (rows.flatten.drop (row * sz + off)).take n = ((rows.getD row []).drop off).take n := by
  have hl := (h rows[row] (List.getElem_mem hr)).1
  rw [← List.drop_drop, flatten_drop row h, List.drop_eq_getElem_cons hr, List.flatten_cons, List.getD_eq_getElem?_getD, List.getElem?_eq_getElem hr, Option.getD_some,
    List.drop_append_of_le_length (by omega), List.take_append_of_le_length (by rw [List.length_drop]; omega)]
def rowLoad (d : TypeDesc) (n : Nat) (cells : List PV) (off : Nat) : PV := if isAggD d then .agg ((cells.drop off).take n) else cells.getD off .un
def rowFits (d : TypeDesc) (n sz off : Nat) : Prop := if isAggD d then off + n ≤ sz else off < sz
theorem load_run {T : TypeId} {d : TypeDesc} {n : Nat} (hd : P.underlying T = some d) (hn : tsize P T = some n) {b p : Nat} {cur : Array Value} {Te : TypeId} {fz : Nat × Nat} (hc : C.W.heap[b]? = some (.cells cur Te fz))
    {sz : Nat} {rows : List (List PV)} (hrow : RowsOk sz rows) (hre : ReL C rows.flatten ((cur.toList.drop p).take rows.flatten.length)) {row off : Nat} (h1 : row < rows.length) (h2 : rowFits d n sz off) :
    ∃ x, (Instr.loadAt T (.pointer (some ⟨b, p + (row * sz + off), none⟩))).run P C.W = .ok x C.W ∧ Re C (rowLoad d n (rows.getD row []) off) x := by
  have hl := (hrow rows[row] (List.getElem_mem h1)).1
  have hfl := flatten_length hrow
  have key : ∀ k, off + k ≤ sz → ReL C (((rows.getD row []).drop off).take k) ((cur.toList.drop (p + (row * sz + off))).take k) := by
    intro k hk
    have h := (hre.drop (row * sz + off)).take k
    rw [row_cells hrow h1 off k hk] at h
    have hb : row * sz + off + k ≤ rows.flatten.length := by
      rw [hfl]
      have : (row + 1) * sz ≤ rows.length * sz := Nat.mul_le_mul_right _ h1
      rw [Nat.succ_mul] at this; omega
    rw [List.drop_take, List.drop_drop, List.take_take, Nat.min_eq_left (by omega)] at h
    exact h
  unfold rowFits at h2
  unfold rowLoad
  cases ha : isAggD d with
  | true =>
    rw [ha] at h2
    simp only [if_true] at h2 ⊢
    have h := key n h2
    have hg : rows.getD row [] = rows[row] := by rw [List.getD_eq_getElem?_getD, List.getElem?_eq_getElem h1]; rfl
    have hlen : ((cur.toList.drop (p + (row * sz + off))).take n).length = n := by
      rw [← h.1, List.length_take, List.length_drop, hg, hl]; omega
    have hrun := run_loadCells_list (P := P) C.W ⟨b, p + (row * sz + off), none⟩ ((cur.toList.drop (p + (row * sz + off))).take n) (cells_at hc _ (by rw [hlen]))
    rw [hlen] at hrun
    refine ⟨.agg ((cur.toList.drop (p + (row * sz + off))).take n).toArray, ?_, .agg h.1 h.2⟩
    simp only [Instr.loadAt, Instr.sureAddr, loadVar, Sem.run_bind, Sem.run_pure, Result.andThen_ok, isAgg_run hd, ha, if_true, tsize_run hn, hrun]
  | false =>
    rw [ha] at h2
    simp only [Bool.false_eq_true, if_false] at h2 ⊢
    have h := key 1 (by omega)
    have hg : rows.getD row [] = rows[row] := by rw [List.getD_eq_getElem?_getD, List.getElem?_eq_getElem h1]; rfl
    have hlt : off < (rows.getD row []).length := by rw [hg, hl]; exact h2
    have e1 : ((rows.getD row []).drop off).take 1 = [(rows.getD row []).getD off .un] := by
      clear h key
      revert hlt
      generalize rows.getD row [] = r
      intro hlt
      rw [List.drop_eq_getElem_cons hlt, List.take_succ_cons, List.take_zero]
      simp [hlt]
    rw [e1] at h
    have hlen := h.1
    obtain ⟨x, hx⟩ : ∃ x, (cur.toList.drop (p + (row * sz + off))).take 1 = [x] := by
      match hq : (cur.toList.drop (p + (row * sz + off))).take 1, hlen with
      | [x], _ => exact ⟨x, rfl⟩
    rw [hx] at h
    have hcell := cells_at hc (p + (row * sz + off)) (xs := [x]) (by simpa using hx) 0 x rfl
    rw [add_plain, Nat.add_zero] at hcell
    refine ⟨x, ?_, h.head.1⟩
    simp [Instr.loadAt, Instr.sureAddr, loadVar, isAgg_run hd, ha, load]
    simp only [Sem.run, hcell]
def aLoad (P : Program) (T : TypeId) (p : PV) (ob : Nat → Option Ob) : R :=
  match P.underlying T, tsize P T, p with
  | some d, some n, .ref nm sz row off =>
    match ob nm with
    | some o => ⟨o.k = .cells ∧ o.sz = sz ∧ row < o.rows.length ∧ rowFits d n sz off, rowLoad d n (o.rows.getD row []) off, []⟩
    | none => .bad
  | some d, some n, .rp sz rows row off => ⟨row < rows.length ∧ rowFits d n sz off, rowLoad d n (rows.getD row []) off, []⟩
  | _, _, _ => .bad
theorem load_ok {T : TypeId} {x : Operand} (hr : Rel E C st a) (ho : o.op = .load T x) (h : (aLoad P T (evP st.regs x) (lookO st.obs)).ok) :
    StepOk P E C st a o new (aLoad P T (evP st.regs x) (lookO st.obs)).v (aLoad P T (evP st.regs x) (lookO st.obs)).u := by
  have hx := hr.eval x
  generalize evP st.regs x = p at *
  generalize hxa : a.eval x = xv at *
  unfold aLoad at *
  split at h
  · rename_i d n nm sz row off hd hn
    cases ho' : lookO st.obs nm with
    | none => rw [ho'] at h; exact h.elim
    | some ob =>
      rw [ho'] at h
      simp only [ho']
      obtain ⟨hk, e, h1, h2⟩ := h
      cases hx with
      | ref hb =>
        obtain ⟨hrow, hh⟩ := hr.cells ho' hk
        rcases hh with ⟨hz, _⟩ | ⟨b', cur, hb', hS, hc, hre⟩
        · rw [hb] at hz; cases hz
        · rw [hb] at hb'; cases hb'
          subst e
          have := load_run (P := P) hd hn (p := 0) hc hrow (by simpa using hre) h1 h2
          simp only [Nat.zero_add] at this
          obtain ⟨y, hy, hre'⟩ := this
          exact .of_look (fun c => by rw [ho]; intro e; cases e) (x := y) (by simp [execOp, ho, hxa, hy]) hre' hr
  · rename_i d n sz rows row off hd hn
    obtain ⟨h1, h2⟩ := h
    cases hx with
    | rp hb hc hrow hx' hl hh =>
      have := load_run (P := P) hd hn hc hrow (by rw [hx']; exact ReL.mono C.nn_le ⟨hl, hh⟩) h1 h2
      obtain ⟨y, hy, hre'⟩ := this
      exact .of_look (fun c => by rw [ho]; intro e; cases e) (x := y) (by simp [execOp, ho, hxa, hy]) hre' hr
  · exact h.elim

/-! ### Stores -/
def splice (cs : List PV) (off : Nat) (new : List PV) : List PV := cs.take off ++ new ++ cs.drop (off + new.length)
def aStore (P : Program) (T : TypeId) (p q : PV) (ob : Nat → Option Ob) : R :=
  match p with
  | .ref nm sz row off =>
    match ob nm with
    | some o => ⟨o.k = .cells ∧ tsize P T = some q.cells.length ∧ o.sz = sz ∧ row < o.rows.length ∧ off + q.cells.length ≤ sz ∧ ∀ c ∈ q.cells, oneP c, .un, [(nm, some { o with rows := o.rows.set row (splice (o.rows.getD row []) off q.cells) })]⟩
    | none => .bad
  | _ => .bad
theorem splice_ok {sz : Nat} {r new : List PV} {off : Nat} (h : RowOk sz r) (hn : off + new.length ≤ sz) (h1 : ∀ c ∈ new, oneP c) : RowOk sz (splice r off new) := by
  refine ⟨?_, fun c hc => ?_⟩
  · have := h.1
    simp only [splice, List.length_append, List.length_take, List.length_drop]; omega
  · unfold splice at hc
    rcases List.mem_append.1 hc with h' | h'
    · rcases List.mem_append.1 h' with h'' | h''
      · exact h.2 c (List.mem_of_mem_take h'')
      · exact h1 c h''
    · exact h.2 c (List.mem_of_mem_drop h')
theorem set_flatten {sz : Nat} {rows : List (List PV)} (h : RowsOk sz rows) {row : Nat} (hr : row < rows.length) {off : Nat} {new : List PV} (hn : off + new.length ≤ sz) :
    (rows.set row (splice (rows.getD row []) off new)).flatten = rows.flatten.take (row * sz + off) ++ new ++ rows.flatten.drop (row * sz + off + new.length) := by
  have hl := (h rows[row] (List.getElem_mem hr)).1
  have hg : rows.getD row [] = rows[row] := by rw [List.getD_eq_getElem?_getD, List.getElem?_eq_getElem hr]; rfl
  rw [hg]
  have e1 : rows.flatten.take (row * sz + off) = (rows.take row).flatten ++ rows[row].take off := by
    rw [List.take_add, flatten_take row h, flatten_drop row h, List.drop_eq_getElem_cons hr, List.flatten_cons, List.take_append_of_le_length (by omega)]
  have e2 : rows.flatten.drop (row * sz + off + new.length) = rows[row].drop (off + new.length) ++ (rows.drop (row + 1)).flatten := by
    rw [Nat.add_assoc, ← List.drop_drop, flatten_drop row h, List.drop_eq_getElem_cons hr, List.flatten_cons, List.drop_append_of_le_length (by omega)]
  rw [e1, e2, List.set_eq_take_append_cons_drop, if_pos hr, List.flatten_append, List.flatten_cons]
  simp [splice]
theorem set_rowsOk {sz : Nat} {rows : List (List PV)} (h : RowsOk sz rows) {row : Nat} {r : List PV} (hr : RowOk sz r) : RowsOk sz (rows.set row r) := by
  intro x hx
  rcases List.mem_or_eq_of_mem_set hx with h' | h'
  · exact h x h'
  · rw [h']; exact hr
theorem store_ok {T : TypeId} {x y : Operand} (hr : Rel E C st a) (ho : o.op = .store T x y) (h : (aStore P T (evP st.regs x) (evP st.regs y) (lookO st.obs)).ok) :
    StepOk P E C st a o new (aStore P T (evP st.regs x) (evP st.regs y) (lookO st.obs)).v (aStore P T (evP st.regs x) (evP st.regs y) (lookO st.obs)).u := by
  have hx := hr.eval x
  have hy := hr.eval y
  generalize evP st.regs x = p at *
  generalize evP st.regs y = q at *
  generalize hxa : a.eval x = xv at *
  generalize hya : a.eval y = yv at *
  unfold aStore at *
  split at h
  · rename_i nm sz row off
    cases ho' : lookO st.obs nm with
    | none => rw [ho'] at h; exact h.elim
    | some ob =>
      rw [ho'] at h
      simp only [ho']
      obtain ⟨hk, hsz, e, h1, h2, h3⟩ := h
      cases hx with
      | ref hb =>
        rename_i b
        obtain ⟨hrow, hh⟩ := hr.cells ho' hk
        rcases hh with ⟨hz, _⟩ | ⟨b', cur, hb', hS, hc, hre⟩
        · rw [hb] at hz; cases hz
        · rw [hb] at hb'; cases hb'
          subst e
          obtain ⟨hq, hqs⟩ := cells_size hy h3
          have hfl := flatten_length hrow
          have hone := hq.one h3
          have hlen : yv.cells.toList.length = q.cells.length := hq.1.symm
          have hbd : row * ob.sz + off + q.cells.length ≤ ob.rows.flatten.length := by
            rw [hfl]
            have : (row + 1) * ob.sz ≤ ob.rows.length * ob.sz := Nat.mul_le_mul_right _ h1
            rw [Nat.succ_mul] at this; omega
          have hcl : ob.rows.flatten.length ≤ cur.size := by
            have := hre.1
            rw [List.length_take, Array.length_toList (xs := cur)] at this; omega
          have hst := run_storeCells_at P b (row * ob.sz + off) ob.T yv.cells.toList 0 cur C.W hc (by omega) hone
          obtain ⟨cur', hcur'⟩ : ∃ cur' : Array Value, cur' = (cur.toList.take (row * ob.sz + off + 0) ++ yv.cells.toList ++ cur.toList.drop (row * ob.sz + off + 0 + yv.cells.toList.length)).toArray := ⟨_, rfl⟩
          rw [← hcur'] at hst
          have hs' : cur'.size = cur.size := by
            rw [hcur']; simp only [List.size_toArray, List.length_append, List.length_take, List.length_drop, Array.length_toList]; omega
          have hre' : ReL C (ob.rows.set row (splice (ob.rows.getD row []) off q.cells)).flatten (cur'.toList.take (ob.rows.set row (splice (ob.rows.getD row []) off q.cells)).flatten.length) := by
            have hfl' : (ob.rows.set row (splice (ob.rows.getD row []) off q.cells)).flatten.length = ob.rows.flatten.length := by
              rw [set_flatten hrow h1 h2]; simp only [List.length_append, List.length_take, List.length_drop]; omega
            rw [hfl', set_flatten hrow h1 h2]
            have e3 : cur'.toList.take ob.rows.flatten.length = (cur.toList.take ob.rows.flatten.length).take (row * ob.sz + off) ++ yv.cells.toList ++ (cur.toList.take ob.rows.flatten.length).drop (row * ob.sz + off + q.cells.length) := by
              rw [hcur', Nat.add_zero, hlen, List.take_take, Nat.min_eq_left (by omega)]
              simp only []
              rw [List.append_assoc, List.append_assoc, List.take_append, List.take_append, List.drop_take]
              have l1 : (cur.toList.take (row * ob.sz + off)).length = row * ob.sz + off := by rw [List.length_take, Array.length_toList]; omega
              rw [l1, hlen, List.take_of_length_le (by omega), List.take_of_length_le (l := yv.cells.toList) (by omega)]
              congr 3
              omega
            rw [e3]
            exact ((hre.take _).append hq).append (hre.drop _)
          obtain ⟨g1, g2⟩ := hr.mod (m := nm) (ob' := { ob with rows := ob.rows.set row (splice (ob.rows.getD row []) off q.cells) }) (u := [(nm, some { ob with rows := ob.rows.set row (splice (ob.rows.getD row []) off q.cells) })]) ho' hb hc rfl hs' (.inl rfl) hk hk
            (fun k => by rw [lookO_applyU]; simp only [updAt]; by_cases e : nm = k <;> simp [e, eq_comm])
            (set_rowsOk hrow (splice_ok (by rw [List.getD_eq_getElem?_getD, List.getElem?_eq_getElem h1]; exact hrow _ (List.getElem_mem h1)) h2 h3)) hre'
          refine .of_skip (C' := C.row nm b cur') (fun c => by rw [ho]; intro e; cases e) ?_ g1 g2 (fun k hk => ?_)
          · simp [execOp, ho, hxa, hya, Instr.storeAt, Instr.sureAddr, storeVar, tsize_run hsz, hqs, hst, Cx.row]
          · by_cases e : k = nm
            · subst e; simp [Cx.row, hb]
            · simp [Cx.row, e]
  · exact h.elim
end
end Go.Proofs.Ytipolblhiljoiaa.Sy

namespace Go.Proofs.Ytipolblhiljoiaa.Sy
open Go Go.RowKit
set_option linter.unusedVariables false
set_option linter.unusedSimpArgs false

section
variable {P : Program} {E : En} {C : Cx} {st : St} {a : Act} {o : Oper} {new : Nat}
theorem Re.rdL {sz : Nat} {rows : List (List PV)} {b p cap : Nat} {cur : Array Value} {T : TypeId} {fz : Nat × Nat} (hb : C.S b) (hc : C.W.heap[b]? = some (.cells cur T fz)) (hrow : RowsOk sz rows)
    (hcap : rows.length ≤ cap) (h : ReL C.nn rows.flatten ((cur.toList.drop p).take rows.flatten.length)) : Re C (.rd sz rows) (.slice (some ⟨b, p, none⟩) rows.length cap) := .rd hb hc hrow rfl hcap h.1 h.2

/-! ### A field's place, a field -/
def aFieldAddr (P : Program) (S : TypeId) (p : PV) (f : Nat) : R :=
  match P.underlying S with
  | some (.struct fs) => match fs[f]? with
    | some fd => match p with
      | .ref nm sz row off => ⟨∃ n, tsize P fd.type = some (n + 1), .ref nm sz row (off + fd.offset), []⟩
      | .rp sz rows row off => ⟨∃ n, tsize P fd.type = some (n + 1), .rp sz rows row (off + fd.offset), []⟩
      | _ => .bad
    | none => .bad
  | _ => .bad
theorem fieldAddr_ok {S : TypeId} {x : Operand} {f : Nat} (hr : Rel E C st a) (ho : o.op = .fieldAddr S x f) (h : (aFieldAddr P S (evP st.regs x) f).ok) :
    StepOk P E C st a o new (aFieldAddr P S (evP st.regs x) f).v (aFieldAddr P S (evP st.regs x) f).u := by
  have hx := hr.eval x
  generalize evP st.regs x = p at *
  generalize hxa : a.eval x = xv at *
  unfold aFieldAddr at *
  split at h
  · rename_i fs hu
    cases hf : fs[f]? with
    | none => rw [hf] at h; exact h.elim
    | some fd =>
      simp only [hf] at h ⊢
      have hf' : fs[f]? = some fd := hf
      cases p with
      | ref nm sz row off =>
        obtain ⟨n, hn⟩ := h
        cases hx with
        | ref hb =>
          refine .of_look (fun c => by rw [ho]; intro e; cases e) (x := .pointer (some ⟨_, row * sz + (off + fd.offset), none⟩)) ?_ (.ref hb) hr
          simp [execOp, ho, hxa, Instr.fieldAt, run_underlying hu, hf', Instr.sureAddr, fieldPlace, tsize_run hn, add_plain, Nat.add_assoc]
      | rp sz rows row off =>
        obtain ⟨n, hn⟩ := h
        cases hx with
        | rp hb hc hrow hx' hl hh =>
          refine .of_look (fun c => by rw [ho]; intro e; cases e) (x := .pointer (some ⟨_, _ + (row * sz + (off + fd.offset)), none⟩)) ?_ (.rp hb hc hrow hx' hl hh) hr
          simp [execOp, ho, hxa, Instr.fieldAt, run_underlying hu, hf', Instr.sureAddr, fieldPlace, tsize_run hn, add_plain, Nat.add_assoc]
      | _ => exact h.elim
  · exact h.elim
theorem part_run {T : TypeId} {d : TypeDesc} {n : Nat} (hd : P.underlying T = some d) (hn : tsize P T = some n) {cs : List PV} {vs : List Value} (h : ReL C cs vs) (off : Nat) (hf : isAggD d = false → off < cs.length) :
    ∃ x, (part T vs.toArray off).run P C.W = .ok x C.W ∧ Re C (rowLoad d n cs off) x := by
  unfold rowLoad
  cases ha : isAggD d with
  | true =>
    have h' := (h.drop off).take n
    refine ⟨.agg ((vs.drop off).take n).toArray, ?_, .agg h'.1 h'.2⟩
    simp [part, isAgg_run hd, ha, tsize_run hn, List.extract_toArray, List.extract]
  | false =>
    have hlt := hf ha
    have hlt' : off < vs.length := by rw [← h.1]; exact hlt
    refine ⟨vs[off], ?_, ?_⟩
    · simp [part, isAgg_run hd, ha, hlt']
    · rw [if_neg (by simp)]
      have := h.2 off hlt hlt'
      simpa [hlt] using this
def aField (P : Program) (T : TypeId) (p : PV) (f : Nat) : R :=
  match P.underlying T with
  | some (.struct fs) => match fs[f]? with
    | some fd => match P.underlying fd.type, tsize P fd.type, p with
      | some d, some n, .agg cs => ⟨isAggD d = false → fd.offset < cs.length, rowLoad d n cs fd.offset, []⟩
      | _, _, _ => .bad
    | none => .bad
  | _ => .bad
theorem field_ok {T : TypeId} {x : Operand} {f : Nat} (hr : Rel E C st a) (ho : o.op = .field T x f) (h : (aField P T (evP st.regs x) f).ok) :
    StepOk P E C st a o new (aField P T (evP st.regs x) f).v (aField P T (evP st.regs x) f).u := by
  have hx := hr.eval x
  generalize evP st.regs x = p at *
  generalize hxa : a.eval x = xv at *
  unfold aField at *
  split at h
  · rename_i fs hu
    cases hf : fs[f]? with
    | none => rw [hf] at h; exact h.elim
    | some fd =>
      simp only [hf] at h ⊢
      split at h
      · rename_i d n cs hd hn
        cases hx with
        | agg hl hh =>
          obtain ⟨y, hy, hre⟩ := part_run (P := P) hd hn ⟨hl, hh⟩ fd.offset h
          exact .of_look (fun c => by rw [ho]; intro e; cases e) (x := y) (by simp [execOp, ho, hxa, Instr.field, run_underlying hu, hf, asAgg, hy]) hre hr
      · exact h.elim
  · exact h.elim

/-! ### An element's place, an element -/
def aIndexAddr (P : Program) (T : TypeId) (p q : PV) : R :=
  match P.underlying T, p, q with
  | some (.slice e), .sl nm sz off len, .val (.int _ i) => ⟨0 ≤ i ∧ i < len ∧ tsize P e = some sz, .ref nm sz (off + i.toNat) 0, []⟩
  | some (.slice e), .rd sz rows, .val (.int _ i) => ⟨0 ≤ i ∧ i < rows.length ∧ tsize P e = some sz, .rp sz rows i.toNat 0, []⟩
  | some (.array n e), .ref nm sz row off, .val (.int _ i) => match tsize P e with
    | some m => ⟨0 ≤ i ∧ i < n, .ref nm sz row (off + i.toNat * m), []⟩
    | none => .bad
  | some (.array n e), .rp sz rows row off, .val (.int _ i) => match tsize P e with
    | some m => ⟨0 ≤ i ∧ i < n, .rp sz rows row (off + i.toNat * m), []⟩
    | none => .bad
  | _, _, _ => .bad
theorem indexAddr_ok {T : TypeId} {x y : Operand} (hr : Rel E C st a) (ho : o.op = .indexAddr T x y) (h : (aIndexAddr P T (evP st.regs x) (evP st.regs y)).ok) :
    StepOk P E C st a o new (aIndexAddr P T (evP st.regs x) (evP st.regs y)).v (aIndexAddr P T (evP st.regs x) (evP st.regs y)).u := by
  have hx := hr.eval x
  have hy := hr.eval y
  generalize evP st.regs x = p at *
  generalize evP st.regs y = q at *
  generalize hxa : a.eval x = xv at *
  generalize hya : a.eval y = yv at *
  unfold aIndexAddr at *
  split at h
  · rename_i e nm sz off len k i hu
    obtain ⟨h0, h1, hs⟩ := h
    cases hy
    cases hx with
    | sl hb hc hlen hmax hfit =>
      refine .of_look (fun c => by rw [ho]; intro e; cases e) (x := .pointer (some ⟨_, (off + i.toNat) * sz + 0, none⟩)) ?_ (.ref hb) hr
      simp [execOp, ho, hxa, hya, Instr.indexAt, asIntOf, run_underlying hu, h0, h1, tsize_run hs, add_plain, Nat.add_mul]
    | sl0 => omega
  · rename_i e sz rows k i hu
    obtain ⟨h0, h1, hs⟩ := h
    cases hy
    cases hx with
    | rd hb hc hrow hx' hcap hl hh =>
      refine .of_look (fun c => by rw [ho]; intro e; cases e) (x := .pointer (some ⟨_, _ + (i.toNat * sz + 0), none⟩)) ?_ (.rp hb hc hrow hx' hl hh) hr
      simp [execOp, ho, hxa, hya, Instr.indexAt, asIntOf, run_underlying hu, h0, h1, tsize_run hs, add_plain]
    | rd0 => simp at h1; omega
  · rename_i n e nm sz row off k i hu
    cases hm : tsize P e with
    | none => rw [hm] at h; exact h.elim
    | some m =>
      simp only [hm] at h ⊢
      obtain ⟨h0, h1⟩ := h
      cases hy
      cases hx with
      | ref hb =>
        refine .of_look (fun c => by rw [ho]; intro e; cases e) (x := .pointer (some ⟨_, row * sz + (off + i.toNat * m), none⟩)) ?_ (.ref hb) hr
        simp [execOp, ho, hxa, hya, Instr.indexAt, asIntOf, run_underlying hu, h0, h1, tsize_run hm, add_plain, Instr.sureAddr, Nat.add_assoc]
  · rename_i n e sz rows row off k i hu
    cases hm : tsize P e with
    | none => rw [hm] at h; exact h.elim
    | some m =>
      simp only [hm] at h ⊢
      obtain ⟨h0, h1⟩ := h
      cases hy
      cases hx with
      | rp hb hc hrow hx' hl hh =>
        refine .of_look (fun c => by rw [ho]; intro e; cases e) (x := .pointer (some ⟨_, _ + (row * sz + (off + i.toNat * m)), none⟩)) ?_ (.rp hb hc hrow hx' hl hh) hr
        simp [execOp, ho, hxa, hya, Instr.indexAt, asIntOf, run_underlying hu, h0, h1, tsize_run hm, add_plain, Instr.sureAddr, Nat.add_assoc]
  · exact h.elim
/-- A text's byte. -/
def btv (s : ByteArray) (i : Int) : Int := ((s.data.toList.getD i.toNat 0).toNat : Int)
def aIndex (P : Program) (T : TypeId) (p q : PV) : R :=
  match P.underlying T, p, q with
  | some .string, .val (.string s), .val (.int _ i) => ⟨0 ≤ i ∧ i < s.size, .val (.int .u8 (btv s i)), []⟩
  | some (.array n e), .agg cs, .val (.int _ i) => match P.underlying e, tsize P e with
    | some d, some m => ⟨0 ≤ i ∧ i < n ∧ (isAggD d = false → i.toNat * m < cs.length), rowLoad d m cs (i.toNat * m), []⟩
    | _, _ => .bad
  | _, _, _ => .bad
theorem index_ok {T : TypeId} {x y : Operand} (hr : Rel E C st a) (ho : o.op = .index T x y) (h : (aIndex P T (evP st.regs x) (evP st.regs y)).ok) :
    StepOk P E C st a o new (aIndex P T (evP st.regs x) (evP st.regs y)).v (aIndex P T (evP st.regs x) (evP st.regs y)).u := by
  have hx := hr.eval x
  have hy := hr.eval y
  generalize evP st.regs x = p at *
  generalize evP st.regs y = q at *
  generalize hxa : a.eval x = xv at *
  generalize hya : a.eval y = yv at *
  unfold aIndex at *
  split at h
  · rename_i s k i hu
    obtain ⟨h0, h1⟩ := h
    cases hy
    cases hx
    refine .of_look (fun c => by rw [ho]; intro e; cases e) (x := .int .u8 (btv s i)) ?_ (.val _) hr
    have hlt : i.toNat < s.size := by omega
    have hb : btv s i = ((s[i.toNat]'hlt).toNat : Int) := by
      unfold btv
      rw [List.getD_eq_getElem?_getD, List.getElem?_eq_getElem (by rw [Array.length_toList]; exact hlt)]; rfl
    simp [execOp, ho, hxa, hya, Instr.index, asIntOf, run_underlying hu, h0, hlt, hb]
  · rename_i n e cs k i hu
    split at h
    · rename_i d m hd hm
      simp only [hd, hm] at h ⊢
      obtain ⟨h0, h1, h2⟩ := h
      cases hy
      cases hx with
      | agg hl hh =>
        obtain ⟨z, hz, hre⟩ := part_run (P := P) hd hm ⟨hl, hh⟩ (i.toNat * m) h2
        exact .of_look (fun c => by rw [ho]; intro e; cases e) (x := z) (by simp [execOp, ho, hxa, hya, Instr.index, asIntOf, run_underlying hu, h0, h1, tsize_run hm, hz]) hre hr
    · exact h.elim
  · exact h.elim
end
end Go.Proofs.Ytipolblhiljoiaa.Sy

namespace Go.Proofs.Ytipolblhiljoiaa.Sy
open Go Go.RowKit
set_option linter.unusedVariables false
set_option linter.unusedSimpArgs false

section
variable {P : Program} {E : En} {C : Cx} {st : St} {a : Act} {o : Oper} {new : Nat}

theorem move_ok {x : Operand} (hr : Rel E C st a) (ho : o.op = .move x ∨ o.op = .assign x) : StepOk P E C st a o new (evP st.regs x) [] := by
  refine .of_look (fun c => by rcases ho with ho | ho <;> (rw [ho]; intro e; cases e)) (x := a.eval x) ?_ (hr.eval x) hr
  rcases ho with ho | ho <;> simp [execOp, ho]
def aPick (c x y : PV) : R :=
  match c with
  | .val (.bool t) => ⟨True, if t then x else y, []⟩
  | _ => .bad
theorem pick_ok {c x y : Operand} (hr : Rel E C st a) (ho : o.op = .pick c x y) (h : (aPick (evP st.regs c) (evP st.regs x) (evP st.regs y)).ok) :
    StepOk P E C st a o new (aPick (evP st.regs c) (evP st.regs x) (evP st.regs y)).v (aPick (evP st.regs c) (evP st.regs x) (evP st.regs y)).u := by
  have hc := hr.eval c
  generalize evP st.regs c = p at *
  generalize hca : a.eval c = cv at *
  unfold aPick at *
  split at h
  · rename_i t
    cases hc
    refine .of_look (fun c => by rw [ho]; intro e; cases e) (x := if t then a.eval x else a.eval y) ?_ ?_ hr
    · simp [execOp, ho, hca, asBool]
    · cases t <;> simp [hr.eval]
  · exact h.elim
def aExtract (p : PV) (i : Nat) : R :=
  match p with
  | .tup vs => ⟨i < vs.length, vs.getD i .un, []⟩
  | _ => .bad
theorem extract_ok {x : Operand} {i : Nat} (hr : Rel E C st a) (ho : o.op = .extract x i) (h : (aExtract (evP st.regs x) i).ok) :
    StepOk P E C st a o new (aExtract (evP st.regs x) i).v (aExtract (evP st.regs x) i).u := by
  have hx := hr.eval x
  generalize evP st.regs x = p at *
  generalize hxa : a.eval x = xv at *
  unfold aExtract at *
  split at h
  · rename_i vs
    cases hx with
    | tup hl hh =>
      rename_i us
      have hlt : i < us.length := by rw [← hl]; exact h
      refine .of_look (fun c => by rw [ho]; intro e; cases e) (x := us[i]) ?_ ?_ hr
      · simp [execOp, ho, hxa, Instr.extract, hlt]
      · have := hh i h hlt
        have hlt2 : i < vs.length := h
        simpa [hlt2] using this
  · exact h.elim
def aMakeFunc (fn : Fn) (first : List PV) (caps : List PV) : R :=
  match fn, first, caps with
  | .func f, [], caps => ⟨True, .clo f caps, []⟩
  | .func f, first, [] => ⟨True, .bnd f first, []⟩
  | _, _, _ => .bad
theorem relMap (hr : Rel E C st a) (xs : List Operand) : ReL C (xs.map (evP st.regs)) (xs.map a.eval) :=
  ⟨by simp, fun i h1 h2 => by rw [List.getElem_map, List.getElem_map]; exact hr.eval _⟩
theorem makeFunc_ok {fn : Fn} {first captured : Array Operand} (hr : Rel E C st a) (ho : o.op = .makeFunc fn first captured) (h : (aMakeFunc fn (first.toList.map (evP st.regs)) (captured.toList.map (evP st.regs))).ok) :
    StepOk P E C st a o new (aMakeFunc fn (first.toList.map (evP st.regs)) (captured.toList.map (evP st.regs))).v (aMakeFunc fn (first.toList.map (evP st.regs)) (captured.toList.map (evP st.regs))).u := by
  have hc := relMap hr captured.toList
  have hf := relMap hr first.toList
  unfold aMakeFunc at *
  split at h
  · rename_i f h1
    have h1' : first = #[] := by simpa using h1
    subst h1'
    refine .of_look (fun c => by rw [ho]; intro e; cases e) (x := .func (.func f) #[] (captured.toList.map a.eval).toArray) ?_ (.clo hc.1 hc.2) hr
    simp [execOp, ho, Instr.makeFunc]
    rw [← Array.toList_map, Array.toArray_toList]
  · rename_i f h1 h2
    have h2' : captured = #[] := by simpa using h1
    subst h2'
    refine .of_look (fun c => by rw [ho]; intro e; cases e) (x := .func (.func f) (first.toList.map a.eval).toArray #[]) ?_ (.bnd hf.1 hf.2) hr
    simp [execOp, ho, Instr.makeFunc]
    rw [← Array.toList_map, Array.toArray_toList]
  · exact h.elim
def aNilCheck (p : PV) : R :=
  match p with
  | .ref nm sz row off => ⟨True, .ref nm sz row off, []⟩
  | .rp sz rows row off => ⟨True, .rp sz rows row off, []⟩
  | .clo f caps => ⟨True, .clo f caps, []⟩
  | .bnd f caps => ⟨True, .bnd f caps, []⟩
  | .yld nm => ⟨True, .yld nm, []⟩
  | _ => .bad
theorem nilCheck_ok {x : Operand} (hr : Rel E C st a) (ho : o.op = .nilCheck x) (h : (aNilCheck (evP st.regs x)).ok) :
    StepOk P E C st a o new (aNilCheck (evP st.regs x)).v (aNilCheck (evP st.regs x)).u := by
  have hx := hr.eval x
  generalize evP st.regs x = p at *
  generalize hxa : a.eval x = xv at *
  unfold aNilCheck at *
  split at h
  · cases hx with
    | ref hb => exact .of_look (fun c => by rw [ho]; intro e; cases e) (by simp [execOp, ho, hxa]) (.ref hb) hr
  · cases hx with
    | rp a1 a2 a3 a4 a5 a6 => exact .of_look (fun c => by rw [ho]; intro e; cases e) (by simp [execOp, ho, hxa]) (.rp a1 a2 a3 a4 a5 a6) hr
  · cases hx with
    | clo a1 a2 => exact .of_look (fun c => by rw [ho]; intro e; cases e) (by simp [execOp, ho, hxa]) (.clo a1 a2) hr
  · cases hx with
    | bnd a1 a2 => exact .of_look (fun c => by rw [ho]; intro e; cases e) (by simp [execOp, ho, hxa]) (.bnd a1 a2) hr
  · cases hx with
    | yld a1 => exact .of_look (fun c => by rw [ho]; intro e; cases e) (by simp [execOp, ho, hxa]) (.yld a1) hr
  · exact h.elim

/-! ### Lengths -/
def lenS : PV → Option Nat
  | .sl _ _ _ len => some len
  | .rd _ rows => some rows.length
  | .val (.slice none 0 0) => some 0
  | .nl => some 0
  | _ => none
def aLen (P : Program) (t : TypeId) (p : PV) : R :=
  match P.underlying t, lenS p, p with
  | some (.slice _), some n, _ => ⟨True, .val (.int .i64 n), []⟩
  | some .string, _, .val (.string s) => ⟨True, .val (.int .i64 s.size), []⟩
  | _, _, _ => .bad
theorem lenS_ok {p : PV} {n : Nat} {v : Value} (hx : Re C p v) (h : lenS p = some n) : ∃ ad cap, v = .slice ad n cap := by
  unfold lenS at h
  split at h
  · cases h; cases hx <;> exact ⟨_, _, rfl⟩
  · cases h; cases hx <;> exact ⟨_, _, rfl⟩
  · cases h; cases hx; exact ⟨_, _, rfl⟩
  · cases h; cases hx; exact ⟨_, _, rfl⟩
  · cases h
theorem len_ok {t : TypeId} {x : Operand} {ts : Array TypeId} (hr : Rel E C st a) (ho : o.op = .call { callee := .builtin .len, args := #[x], argTypes := ts }) (ht : ts[0]? = some t) (h : (aLen P t (evP st.regs x)).ok) :
    StepOk P E C st a o new (aLen P t (evP st.regs x)).v (aLen P t (evP st.regs x)).u := by
  have hx := hr.eval x
  generalize evP st.regs x = p at *
  generalize hxa : a.eval x = xv at *
  unfold aLen at *
  split at h
  · rename_i e n hu hl
    obtain ⟨ad, cap, rfl⟩ := lenS_ok hx hl
    refine .of_look (fun c => by rw [ho]; intro e; cases e) (x := .int .i64 n) ?_ (.val _) hr
    simp [execOp, ho, resolve, invoke, builtin, Builtin.len_, ht, hxa, run_underlying hu, goInt]
  · rename_i s hu
    cases hx
    refine .of_look (fun c => by rw [ho]; intro e; cases e) (x := .int .i64 s.size) ?_ (.val _) hr
    simp [execOp, ho, resolve, invoke, builtin, Builtin.len_, ht, hxa, run_underlying hu, goInt]
  · exact h.elim

/-! ### Cuts -/
def ofInt : Option PV → Int → Option Int
  | none, d => some d
  | some (.val (.int _ i)), _ => some i
  | _, _ => none
theorem ofInt_eq {x : Option PV} {d i : Int} (h : ofInt x d = some i) : (x = none ∧ i = d) ∨ ∃ k, x = some (.val (.int k i)) := by
  unfold ofInt at h
  split at h
  · exact .inl ⟨rfl, (Option.some.inj h).symm⟩
  · cases h; exact .inr ⟨_, rfl⟩
  · cases h
/-- Between which places a cut lies: from, to, and up to where it may grow. -/
def cutOk (len : Nat) (l h : Int) (m : Option Int) : Prop := 0 ≤ l ∧ l ≤ h ∧ h ≤ len ∧ ∀ i, m = some i → h ≤ i ∧ i ≤ len
def aSlice (P : Program) (T : TypeId) (p : PV) (lo hi mx : Option PV) : R :=
  match P.underlying T, p with
  | some .string, .val (.string s) => match ofInt lo 0, ofInt hi s.size, mx with
    | some l, some h, none => ⟨0 ≤ l ∧ l ≤ h ∧ h ≤ s.size, .val (.string (s.extract l.toNat h.toNat)), []⟩
    | _, _, _ => .bad
  | some (.slice e), .sl nm sz off len => match ofInt lo 0, ofInt hi len, ofInt mx len with
    | some l, some h, some m => ⟨(mx.isSome = true → hi.isSome = true) ∧ cutOk len l h (if mx.isSome then some m else none) ∧ tsize P e = some sz, .sl nm sz (off + l.toNat) (h.toNat - l.toNat), []⟩
    | _, _, _ => .bad
  | some (.slice e), .rd sz rows => match ofInt lo 0, ofInt hi rows.length, ofInt mx rows.length with
    | some l, some h, some m => ⟨(mx.isSome = true → hi.isSome = true) ∧ cutOk rows.length l h (if mx.isSome then some m else none) ∧ tsize P e = some sz, if mx.isSome = true ∧ m = l then .nl else .rd sz ((rows.take h.toNat).drop l.toNat), []⟩
    | _, _, _ => .bad
  | some (.slice e), .nl => match ofInt lo 0, ofInt hi 0, ofInt mx 0 with
    | some l, some h, some m => ⟨(mx.isSome = true → hi.isSome = true) ∧ cutOk 0 l h (if mx.isSome then some m else none) ∧ (tsize P e).isSome = true, .nl, []⟩
    | _, _, _ => .bad
  | some (.slice e), .val (.slice none 0 0) => match ofInt lo 0, ofInt hi 0, mx with
    | some l, some h, none => ⟨l = 0 ∧ h = 0 ∧ (tsize P e).isSome = true, .val (.slice none 0 0), []⟩
    | _, _, _ => .bad
  | _, _ => .bad
/-- A bound, as the machine has it. -/
theorem relOpt (hr : Rel E C st a) {x : Option Operand} {d i : Int} (h : ofInt (x.map (evP st.regs)) d = some i) : (x = none ∧ i = d) ∨ ∃ y k, x = some y ∧ a.eval y = .int k i := by
  rcases ofInt_eq h with ⟨h1, h2⟩ | ⟨k, h1⟩
  · exact .inl ⟨by simpa using h1, h2⟩
  · cases x with
    | none => simp at h1
    | some y =>
      simp only [Option.map_some, Option.some.injEq] at h1
      have := hr.eval y
      rw [h1] at this
      refine .inr ⟨y, k, rfl, ?_⟩
      generalize a.eval y = v at this ⊢
      cases this; rfl
theorem sliceBound_run {k : IntKind} {i : Int} {y : Nat} (W : World) (h0 : 0 ≤ i) (h1 : i ≤ (y : Int)) (code : BoundsCode) : (Instr.sliceBound (.int k i) y code).run P W = .ok i.toNat W := by
  simp [Instr.sliceBound, asIntOf, h0, h1]
theorem bounds_run (hr : Rel E C st a) {lo hi mx : Option Operand} {len cap : Nat} {l h m : Int} (hl : ofInt (lo.map (evP st.regs)) 0 = some l) (hh : ofInt (hi.map (evP st.regs)) len = some h)
    (hm : ofInt (mx.map (evP st.regs)) len = some m) (hmx : (mx.map (evP st.regs)).isSome = true → (hi.map (evP st.regs)).isSome = true) (hc : cutOk len l h (if (mx.map (evP st.regs)).isSome then some m else none)) (hcap : len ≤ cap) :
    ∃ m' : Nat, (Instr.sliceBounds true len cap (lo.map a.eval) (hi.map a.eval) (mx.map a.eval)).run P C.W = .ok (l.toNat, h.toNat, m') C.W ∧ h.toNat ≤ m' ∧ m' ≤ cap := by
  obtain ⟨c0, c1, c2, c3⟩ := hc
  rcases relOpt hr hm with ⟨rfl, rfl⟩ | ⟨ym, km, rfl, em⟩
  · rcases relOpt hr hh with ⟨rfl, rfl⟩ | ⟨yh, kh, rfl, eh⟩ <;> rcases relOpt hr hl with ⟨rfl, rfl⟩ | ⟨yl, kl, rfl, el⟩
    all_goals refine ⟨cap, ?_, by omega, Nat.le_refl _⟩
    · simp [Instr.sliceBounds]
    · simp [Instr.sliceBounds, el, sliceBound_run (P := P) (k := kl) C.W c0 c1]
    · simp [Instr.sliceBounds, eh, sliceBound_run (P := P) (k := kh) (y := cap) C.W c1 (by omega)]
    · simp [Instr.sliceBounds, eh, el, sliceBound_run (P := P) (k := kh) (y := cap) C.W (show 0 ≤ h by omega) (by omega), sliceBound_run (P := P) (k := kl) (y := h.toNat) C.W c0 (by omega)]
  · have hs := c3 m (by simp)
    rcases relOpt hr hh with ⟨rfl, rfl⟩ | ⟨yh, kh, rfl, eh⟩
    · have := hmx (by simp); simp at this
    have r1 := sliceBound_run (P := P) (k := km) (i := m) (y := cap) C.W (show 0 ≤ m by omega) (by omega)
    have r2 := sliceBound_run (P := P) (k := kh) (i := h) (y := m.toNat) C.W (show 0 ≤ h by omega) (by omega)
    rcases relOpt hr hl with ⟨rfl, rfl⟩ | ⟨yl, kl, rfl, el⟩
    · exact ⟨m.toNat, by simp [Instr.sliceBounds, eh, em, r1, r2], by omega, by omega⟩
    · have r3 := sliceBound_run (P := P) (k := kl) (i := l) (y := h.toNat) C.W c0 (by omega)
      exact ⟨m.toNat, by simp [Instr.sliceBounds, eh, em, el, r1, r2, r3], by omega, by omega⟩
theorem slice_ok {T : TypeId} {x : Operand} {lo hi mx : Option Operand} (hr : Rel E C st a) (ho : o.op = .slice T x lo hi mx)
    (h : (aSlice P T (evP st.regs x) (lo.map (evP st.regs)) (hi.map (evP st.regs)) (mx.map (evP st.regs))).ok) :
    StepOk P E C st a o new (aSlice P T (evP st.regs x) (lo.map (evP st.regs)) (hi.map (evP st.regs)) (mx.map (evP st.regs))).v (aSlice P T (evP st.regs x) (lo.map (evP st.regs)) (hi.map (evP st.regs)) (mx.map (evP st.regs))).u := by
  have hx := hr.eval x
  generalize evP st.regs x = p at *
  generalize hxa : a.eval x = xv at *
  unfold aSlice at *
  split at h
  · rename_i s hu
    split at h
    · rename_i l hh hl hh' hmx
      simp only [hl, hh', hmx]
      obtain ⟨c0, c1, c2⟩ := h
      cases hx
      have hmx' : mx = none := by simpa using hmx
      subst hmx'
      refine .of_look (fun c => by rw [ho]; intro e; cases e) (x := .string (s.extract l.toNat hh.toNat)) ?_ (.val _) hr
      rcases relOpt hr hh' with ⟨rfl, rfl⟩ | ⟨yh, kh, rfl, eh⟩ <;> rcases relOpt hr hl with ⟨rfl, rfl⟩ | ⟨yl, kl, rfl, el⟩
      · simp [execOp, ho, hxa, Instr.sliceAt, Instr.slice, run_underlying hu, Instr.sliceBounds]
      · have e1 : l ≤ (s.size : Int) := c1
        simp [execOp, ho, hxa, Instr.sliceAt, Instr.slice, run_underlying hu, Instr.sliceBounds, Instr.sliceBound, asIntOf, el, c0, e1]
      · simp [execOp, ho, hxa, Instr.sliceAt, Instr.slice, run_underlying hu, Instr.sliceBounds, Instr.sliceBound, asIntOf, eh, c1, c2]
      · simp [execOp, ho, hxa, Instr.sliceAt, Instr.slice, run_underlying hu, Instr.sliceBounds, eh, el, sliceBound_run (P := P) (k := kh) (y := s.size) C.W (show 0 ≤ hh by omega) c2, sliceBound_run (P := P) (k := kl) (y := hh.toNat) C.W c0 (by omega)]
    · exact h.elim
  · rename_i e nm sz off len hu
    split at h
    · rename_i l hh m hl hh' hm
      simp only [hl, hh', hm]
      obtain ⟨hmx, hc, hs⟩ := h
      have hc' := hc
      obtain ⟨c0, c1, c2, c3⟩ := hc
      cases hx with
      | sl hb hb2 hlen hmax hfit =>
        rename_i cap b cur T' fz
        obtain ⟨m', hrun, g1, g2⟩ := bounds_run (P := P) (cap := cap) hr hl hh' hm hmx hc' hlen
        by_cases hml : m' = l.toNat
        · have e0 : hh.toNat - l.toNat = 0 := by omega
          rw [e0]
          refine .of_look (fun c => by rw [ho]; intro e; cases e) (x := .slice (some ⟨b, off * sz, none⟩) 0 0) ?_ .sl0 hr
          simp [execOp, ho, hxa, Instr.sliceAt, Instr.slice, run_underlying hu, hrun, tsize_run hs, hml, e0]
        · refine .of_look (fun c => by rw [ho]; intro e; cases e) (x := .slice (some ⟨b, (off + l.toNat) * sz, none⟩) (hh.toNat - l.toNat) (m' - l.toNat)) ?_ (.sl hb hb2 (by omega) (by omega) (by
            refine Nat.le_trans (Nat.mul_le_mul_right _ ?_) hfit
            omega)) hr
          simp [execOp, ho, hxa, Instr.sliceAt, Instr.slice, run_underlying hu, hrun, tsize_run hs, hml, add_plain, Nat.add_mul]
      | sl0 =>
        rename_i ad
        obtain ⟨m', hrun, g1, g2⟩ := bounds_run (P := P) (cap := 0) hr hl hh' hm hmx hc' (Nat.le_refl _)
        have e0 : hh.toNat - l.toNat = 0 := by omega
        rw [e0]
        have e1 : m' = 0 := by omega
        have e2 : l.toNat = 0 := by omega
        have e3 : hh.toNat = 0 := by omega
        refine .of_look (fun c => by rw [ho]; intro e; cases e) (x := .slice ad 0 0) ?_ .sl0 hr
        simp [execOp, ho, hxa, Instr.sliceAt, Instr.slice, run_underlying hu, hrun, tsize_run hs, e1, e2, e3]
    · exact h.elim
  · rename_i e sz rows hu
    split at h
    · rename_i l hh m hl hh' hm
      simp only [hl, hh', hm]
      obtain ⟨hmx, hc, hs⟩ := h
      have hc' := hc
      obtain ⟨c0, c1, c2, c3⟩ := hc
      have hlen : ((rows.take hh.toNat).drop l.toNat).length = hh.toNat - l.toNat := by rw [List.length_drop, List.length_take]; omega
      by_cases hnl : (mx.map (evP st.regs)).isSome = true ∧ m = l
      · rw [if_pos hnl]
        have hml := c3 m (by rw [if_pos hnl.1])
        have hlh : l = hh ∧ m = hh := by omega
        obtain ⟨hm1, hm2⟩ := hnl
        have gen : ∀ ad cap, xv = .slice ad rows.length cap → rows.length ≤ cap → StepOk P E C st a o new .nl [] := by
          intro ad cap hxv hcap
          rw [hxv] at hxa
          obtain ⟨m', hrun, g1, g2⟩ := bounds_run (P := P) (cap := cap) hr hl hh' hm hmx hc' hcap
          have hm' : m' = m.toNat := by
            rcases relOpt hr hm with ⟨e, _⟩ | ⟨ym, km, e, em⟩
            · rw [e] at hm1; simp at hm1
            · rcases relOpt hr hh' with ⟨e', _⟩ | ⟨yh, kh, e', eh⟩
              · have := hmx (by rw [e]; rfl); rw [e'] at this; simp at this
              · have q1 := sliceBound_run (P := P) (k := km) (i := m) (y := cap) C.W (by omega) (by omega)
                have q2 := sliceBound_run (P := P) (k := kh) (i := hh) (y := m.toNat) C.W (by omega) (by omega)
                subst e; subst e'
                rcases relOpt hr hl with ⟨e'', _⟩ | ⟨yl, kl, e'', el⟩
                · subst e''
                  simp [Instr.sliceBounds, eh, em, q1, q2] at hrun
                  exact hrun.2.symm
                · have q3 := sliceBound_run (P := P) (k := kl) (i := l) (y := hh.toNat) C.W c0 (by omega)
                  subst e''
                  simp [Instr.sliceBounds, eh, em, el, q1, q2, q3] at hrun
                  exact hrun.symm
          have e0 : hh.toNat - l.toNat = 0 := by omega
          have e1 : m' = l.toNat := by omega
          refine .of_look (fun c => by rw [ho]; intro e; cases e) (x := .slice ad 0 0) ?_ .nl hr
          simp [execOp, ho, hxa, Instr.sliceAt, Instr.slice, run_underlying hu, hrun, tsize_run hs, e0, e1]
        cases hx with
        | rd hb hb2 hrow hx' hcap hl' hre => exact gen _ _ rfl hcap
        | rd0 => exact gen _ _ rfl (Nat.zero_le _)
      rw [if_neg hnl]
      have key : ∀ ad cap, xv = .slice ad rows.length cap → rows.length ≤ cap → (rows ≠ [] → ∀ b p, ad = some ⟨b, p, none⟩ → ∃ cur T fz, C.S b ∧ C.W.heap[b]? = some (.cells cur T fz) ∧ RowsOk sz rows ∧ ReL C.nn rows.flatten ((cur.toList.drop p).take rows.flatten.length)) →
          (rows = [] ∨ ∃ b p, ad = some ⟨b, p, none⟩) → StepOk P E C st a o new (.rd sz ((rows.take hh.toNat).drop l.toNat)) [] := by
        intro ad cap hxv hcap hcell hcase
        obtain ⟨m', hrun, g1, g2⟩ := bounds_run (P := P) (cap := cap) hr hl hh' hm hmx hc' hcap
        rw [hxv] at hxa
        by_cases e0 : hh.toNat - l.toNat = 0
        · have : (rows.take hh.toNat).drop l.toNat = [] := List.eq_nil_of_length_eq_zero (by omega)
          rw [this]
          refine .of_look (fun c => by rw [ho]; intro e; cases e) (x := .slice (if m' = l.toNat then ad else ad.map (·.add (l.toNat * sz))) 0 (m' - l.toNat)) ?_ .rd0 hr
          simp [execOp, ho, hxa, Instr.sliceAt, Instr.slice, run_underlying hu, hrun, tsize_run hs, e0]
        · rcases hcase with rfl | ⟨b, p, rfl⟩
          · simp at c2; omega
          · obtain ⟨cur, T', fz, hS, hb, hrow, hre⟩ := hcell (fun e => e0 (by have := hlen; rw [e] at this; simp at this; omega)) b p rfl
            have hml : m' ≠ l.toNat := by omega
            have h1 := (hre.take (hh.toNat * sz)).drop (l.toNat * sz)
            have hb2 : hh.toNat * sz ≤ rows.flatten.length := by rw [flatten_length hrow]; exact Nat.mul_le_mul_right _ (by omega)
            have ev : ((((cur.toList.drop p).take rows.flatten.length).take (hh.toNat * sz)).drop (l.toNat * sz)) = (cur.toList.drop (p + l.toNat * sz)).take (hh.toNat * sz - l.toNat * sz) := by
              rw [List.take_take, Nat.min_eq_left hb2, List.drop_take, List.drop_drop]
            rw [ev, flatten_take _ hrow, flatten_drop _ (hrow.take _), ← Nat.sub_mul] at h1
            refine .of_look (fun c => by rw [ho]; intro e; cases e) (x := .slice (some ⟨b, p + l.toNat * sz, none⟩) (hh.toNat - l.toNat) (m' - l.toNat)) ?_ ?_ hr
            · simp [execOp, ho, hxa, Instr.sliceAt, Instr.slice, run_underlying hu, hrun, tsize_run hs, hml, add_plain]
            · have hrd := Re.rdL (C := C) (sz := sz) (rows := (rows.take hh.toNat).drop l.toNat) (b := b) (p := p + l.toNat * sz) (cap := m' - l.toNat) hS hb ((hrow.take _).drop _) (by rw [hlen]; omega) ?_
              · rw [hlen] at hrd; exact hrd
              · have hfl := flatten_length ((hrow.take hh.toNat).drop l.toNat)
                rw [hlen] at hfl
                rw [hfl]
                exact h1
      cases hx with
      | rd hb hb2 hrow hx' hcap hl' hre =>
        rename_i b p cap cur T' fz xs
        exact key (some ⟨b, p, none⟩) cap rfl hcap (fun _ b' p' e => by cases e; exact ⟨cur, T', fz, hb, hb2, hrow, by rw [hx']; exact ⟨hl', hre⟩⟩) (.inr ⟨b, p, rfl⟩)
      | rd0 =>
        rename_i ad cap
        exact key ad cap rfl (Nat.zero_le _) (fun h => absurd rfl h) (.inl rfl)
    · exact h.elim
  · rename_i e hu
    split at h
    · rename_i l hh m hl hh' hm
      simp only [hl, hh', hm]
      obtain ⟨hmx, hc, hs⟩ := h
      have hc' := hc
      obtain ⟨c0, c1, c2, c3⟩ := hc
      obtain ⟨sz, hs⟩ := Option.isSome_iff_exists.1 hs
      cases hx with
      | nl =>
        rename_i ad
        obtain ⟨m', hrun, g1, g2⟩ := bounds_run (P := P) (cap := 0) hr hl hh' hm hmx hc' (Nat.le_refl _)
        have e1 : m' = 0 := by omega
        have e2 : l.toNat = 0 := by omega
        have e3 : hh.toNat = 0 := by omega
        refine .of_look (fun c => by rw [ho]; intro e; cases e) (x := .slice ad 0 0) ?_ .nl hr
        simp [execOp, ho, hxa, Instr.sliceAt, Instr.slice, run_underlying hu, hrun, tsize_run hs, e1, e2, e3]
    · exact h.elim
  · rename_i e hu
    split at h
    · rename_i l hh hl hh' hmx
      simp only [hl, hh', hmx]
      obtain ⟨rfl, rfl, hs⟩ := h
      obtain ⟨sz, hs⟩ := Option.isSome_iff_exists.1 hs
      cases hx
      have hmx' : mx = none := by simpa using hmx
      subst hmx'
      obtain ⟨m', hrun, g1, g2⟩ := bounds_run (P := P) (len := 0) (cap := 0) (mx := none) (m := 0) hr hl (by simpa using hh') rfl (by simp) ⟨by omega, by omega, by omega, by simp⟩ (Nat.le_refl _)
      have e1 : m' = 0 := by omega
      simp only [Option.map_none] at hrun
      refine .of_look (fun c => by rw [ho]; intro e; cases e) (x := .slice none 0 0) ?_ (.val _) hr
      simp [execOp, ho, hxa, Instr.sliceAt, Instr.slice, run_underlying hu, hrun, tsize_run hs, e1]
    · exact h.elim
  · exact h.elim
end
end Go.Proofs.Ytipolblhiljoiaa.Sy

namespace Go.Proofs.Ytipolblhiljoiaa.Sy
open Go Go.RowKit
set_option linter.unusedVariables false
set_option linter.unusedSimpArgs false

section
variable {P : Program} {E : En} {C : Cx} {st : St} {a : Act} {o : Oper} {new : Nat}

/-! ### Literals -/
def fillP (place : Nat → Option (Nat × Nat)) : List PV → List (Nat × PV) → Option (List PV)
  | cells, [] => some cells
  | cells, (i, p) :: rest =>
    match place i with
    | none => none
    | some (off, size) => if p.cells.length ≠ size ∨ off + p.cells.length > cells.length then none else fillP place (splice cells off p.cells) rest
theorem foldl_set (off : Nat) : ∀ (vs : List Value) (k : Nat) (cs : Array Value), off + k + vs.length ≤ cs.size →
    ((vs.zipIdx k).foldl (fun cs (x : Value × Nat) => cs.setIfInBounds (off + x.2) x.1) cs).toList = cs.toList.take (off + k) ++ vs ++ cs.toList.drop (off + k + vs.length)
  | [], k, cs, h => by simp
  | v :: vs, k, cs, h => by
    simp only [List.zipIdx_cons, List.foldl_cons]
    have hlt : off + k < cs.toList.length := by rw [Array.length_toList]; simp at h; omega
    rw [foldl_set off vs (k + 1) _ (by simp only [Array.size_setIfInBounds]; simp at h; omega)]
    rw [Array.toList_setIfInBounds]
    have e1 : (cs.toList.set (off + k) v).take (off + (k + 1)) = cs.toList.take (off + k) ++ [v] := by
      rw [show off + (k + 1) = off + k + 1 by omega, List.take_succ_eq_append_getElem (by simpa using hlt), List.take_set_of_le (Nat.le_refl _)]
      simp
    have e2 : (cs.toList.set (off + k) v).drop (off + (k + 1) + vs.length) = cs.toList.drop (off + k + (v :: vs).length) := by
      rw [List.drop_set_of_lt (by omega)]; congr 1; simp; omega
    rw [e1, e2]; simp
theorem fill_ok {place : Nat → Option (Nat × Nat)} : ∀ {parts : List (Nat × PV)} {vparts : List (Nat × Value)} {cs cs' : List PV} {vs : Array Value}, parts.length = vparts.length →
    (∀ i (h1 : i < parts.length) (h2 : i < vparts.length), parts[i].1 = vparts[i].1 ∧ Re C parts[i].2 vparts[i].2) → (∀ x ∈ parts, ∀ c ∈ x.2.cells, oneP c) → ReL C cs vs.toList → fillP place cs parts = some cs' →
    ∃ vs', Instr.fill place vs vparts = some vs' ∧ ReL C cs' vs'.toList
  | [], [], cs, cs', vs, _, _, _, h, e => by
    simp only [fillP, Option.some.injEq] at e
    subst e
    exact ⟨vs, rfl, h⟩
  | (i, p) :: parts, (j, v) :: vparts, cs, cs', vs, hl, hh, ho, h, e => by
    obtain ⟨hij, hp⟩ := hh 0 (by simp) (by simp)
    simp only [List.getElem_cons_zero] at hij hp
    subst hij
    obtain ⟨hc, hs⟩ := cells_size hp (ho _ List.mem_cons_self)
    simp only [fillP] at e
    cases hpl : place i with
    | none => rw [hpl] at e; cases e
    | some os =>
      obtain ⟨off, size⟩ := os
      rw [hpl] at e
      simp only [] at e
      split at e
      · cases e
      · rename_i hn
        have hn1 : p.cells.length = size := Classical.byContradiction fun x => hn (.inl x)
        have hn2 : off + p.cells.length ≤ cs.length := Nat.le_of_not_lt fun x => hn (.inr x)
        have hvl : vs.size = cs.length := by have := h.1; rw [Array.length_toList (xs := vs)] at this; omega
        obtain ⟨us, hus⟩ : ∃ us, v.cells.zipIdx.foldl (fun cs (x : Value × Nat) => cs.setIfInBounds (off + x.2) x.1) vs = us := ⟨_, rfl⟩
        have hus' : us.toList = vs.toList.take off ++ v.cells.toList ++ vs.toList.drop (off + p.cells.length) := by
          rw [← hus, ← Array.foldl_toList, Array.toList_zipIdx, foldl_set off v.cells.toList 0 vs (by rw [Array.length_toList]; omega)]
          simp [hs]
        have hre : ReL C (splice cs off p.cells) us.toList := by
          rw [hus']; exact ((h.take _).append hc).append (h.drop _)
        obtain ⟨vs', h1, h2⟩ := fill_ok (parts := parts) (vparts := vparts) (by simpa using hl) (fun i h1 h2 => hh (i + 1) (by simpa using h1) (by simpa using h2)) (fun x hx => ho x (List.mem_cons_of_mem _ hx)) hre e
        refine ⟨vs', ?_, h2⟩
        rw [← h1, ← hus]
        simp only [Instr.fill, hpl]
        rw [if_neg (by simp; omega)]
def partsP (ev : Operand → PV) (parts : Array (Nat × Operand)) : List (Nat × PV) := parts.toList.map fun x => (x.1, ev x.2)
def partsOne : List (Nat × PV) → Prop
  | [] => True
  | x :: r => (∀ c ∈ x.2.cells, oneP c) ∧ partsOne r
theorem partsOne_all : ∀ {l : List (Nat × PV)}, partsOne l → ∀ x ∈ l, ∀ c ∈ x.2.cells, oneP c
  | [], _, x, hx => absurd hx (by simp)
  | y :: r, h, x, hx => by
    rcases List.mem_cons.1 hx with e | e
    · rw [e]; exact h.1
    · exact partsOne_all h.2 x e
def partsV (ev : Operand → Value) (parts : Array (Nat × Operand)) : List (Nat × Value) := parts.toList.map fun x => (x.1, ev x.2)
theorem partsV_eq (ev : Operand → Value) (parts : Array (Nat × Operand)) : (parts.map fun (i, x) => (i, ev x)).toList = partsV ev parts := by
  rw [Array.toList_map]; rfl
theorem partsP_re (hr : Rel E C st a) (parts : Array (Nat × Operand)) : (partsP (evP st.regs) parts).length = (partsV a.eval parts).length ∧
    ∀ i (h1 : i < (partsP (evP st.regs) parts).length) (h2 : i < (partsV a.eval parts).length), (partsP (evP st.regs) parts)[i].1 = (partsV a.eval parts)[i].1 ∧
      Re C (partsP (evP st.regs) parts)[i].2 (partsV a.eval parts)[i].2 := by
  refine ⟨by simp [partsP, partsV], fun i h1 h2 => ?_⟩
  have e1 : (partsP (evP st.regs) parts)[i] = ((parts.toList[i]'(by simpa [partsP] using h1)).1, evP st.regs (parts.toList[i]'(by simpa [partsP] using h1)).2) := List.getElem_map _
  have e2 : (partsV a.eval parts)[i] = ((parts.toList[i]'(by simpa [partsP] using h1)).1, a.eval (parts.toList[i]'(by simpa [partsP] using h1)).2) := List.getElem_map _
  rw [e1, e2]
  exact ⟨rfl, hr.eval _⟩
def fieldPlaces (P : Program) : List Field → Option (List (Nat × Nat))
  | [] => some []
  | f :: r => match tsize P f.type, fieldPlaces P r with
    | some n, some l => some ((f.offset, n) :: l)
    | _, _ => none
theorem fieldPlaces_run (W : World) : ∀ (fs : List Field) (l : List (Nat × Nat)), fieldPlaces P fs = some l → (fs.mapM fun f => (do pure (f.offset, ← sizeOf f.type) : Sem (Nat × Nat))).run P W = .ok l W
  | [], l, h => by
    simp only [fieldPlaces, Option.some.injEq] at h; subst h
    simp
  | f :: fs, l, h => by
    simp only [fieldPlaces] at h
    split at h
    · rename_i n l' h1 h2
      cases h
      rw [List.mapM_cons]
      simp only [Sem.run_bind, tsize_run h1, Result.andThen_ok, Sem.run_pure, fieldPlaces_run W fs l' h2]
    · cases h
def aBuild (P : Program) (t : TypeId) (parts : List (Nat × PV)) : R :=
  match P.underlying t, tzero P t with
  | some (.struct fs), some z => match fieldPlaces P fs.toList with
    | some l => match fillP (l[·]?) z parts with
      | some cs => ⟨partsOne parts ∧ ∀ c ∈ z, oneP c, .agg cs, []⟩
      | none => .bad
    | none => .bad
  | some (.array _ e), some z => match tsize P e with
    | some n => match fillP (fun i => some (i * n, n)) z parts with
      | some cs => ⟨partsOne parts ∧ ∀ c ∈ z, oneP c, .agg cs, []⟩
      | none => .bad
    | none => .bad
  | _, _ => .bad
theorem tzero_run {t : TypeId} {z : List PV} (h : tzero P t = some z) (ho : ∀ c ∈ z, oneP c) (W : World) : ∃ zv, (zeroValue t).run P W = .ok zv W ∧ ReL C z zv.cells.toList ∧ ∃ i, P.info? t = some i ∧ i.zero = some zv := by
  unfold tzero at h
  obtain ⟨zv, h1, h2⟩ := Option.map_eq_some_iff.1 h
  obtain ⟨i, hi, hzv⟩ := Option.bind_eq_some_iff.1 h1
  subst h2
  exact ⟨zv, by simp [zeroValue, typeInfo, hi, hzv], (cells_size (Re.cvt (C := C) zv) ho).1, i, hi, hzv⟩
theorem build_ok {t : TypeId} {parts : Array (Nat × Operand)} (hr : Rel E C st a) (ho : o.op = .build t parts) (h : (aBuild P t (partsP (evP st.regs) parts)).ok) :
    StepOk P E C st a o new (aBuild P t (partsP (evP st.regs) parts)).v (aBuild P t (partsP (evP st.regs) parts)).u := by
  obtain ⟨p1, p2⟩ := partsP_re hr parts
  unfold aBuild at *
  split at h
  · rename_i fs z hu hz
    split at h
    · rename_i l hl
      split at h
      · rename_i cs hcs
        simp only [hl, hcs]
        obtain ⟨hone, hz1⟩ := h
        obtain ⟨zv, hzr, hzc, _⟩ := tzero_run (C := C) hz hz1 C.W
        obtain ⟨vs', hf, hre⟩ := fill_ok p1 p2 (partsOne_all hone) hzc hcs
        have hm := fieldPlaces_run (P := P) C.W _ _ hl
        refine .of_look (fun c => by rw [ho]; intro e; cases e) (x := .agg vs'.toList.toArray) ?_ (.agg hre.1 hre.2) hr
        have hm2 : (fs.mapM fun f => (do pure (f.offset, ← sizeOf f.type) : Sem (Nat × Nat))).run P C.W = .ok l.toArray C.W := by
          rw [Array.mapM_eq_mapM_toList]
          simp only [← bind_pure_comp, Sem.run_bind, hm, Result.andThen_ok, Sem.run_pure]
        have hf' : Instr.fill (fun x => l.toArray[x]?) zv.cells (partsV a.eval parts) = some vs' := by
          rw [← hf]; simp
        simp only [execOp, ho, Instr.build, Sem.run_bind, hzr, Result.andThen_ok, run_underlying hu, hm2, partsV_eq, hf', Sem.run_pure, Array.toArray_toList]
      · exact h.elim
    · exact h.elim
  · rename_i n e z hu hz
    split at h
    · rename_i m hm
      split at h
      · rename_i cs hcs
        simp only [hm, hcs]
        obtain ⟨hone, hz1⟩ := h
        obtain ⟨zv, hzr, hzc, _⟩ := tzero_run (C := C) hz hz1 C.W
        obtain ⟨vs', hf, hre⟩ := fill_ok p1 p2 (partsOne_all hone) hzc hcs
        refine .of_look (fun c => by rw [ho]; intro e; cases e) (x := .agg vs'.toList.toArray) ?_ (.agg hre.1 hre.2) hr
        simp only [execOp, ho, Instr.build, Sem.run_bind, hzr, Result.andThen_ok, run_underlying hu, tsize_run hm, partsV_eq, hf, Sem.run_pure, Array.toArray_toList]
      · exact h.elim
    · exact h.elim
  · exact h.elim

/-! ### Rows of one thing -/
theorem rep_flatten (z : List PV) : ∀ n, (List.replicate n z).flatten.length = n * z.length
  | 0 => by simp
  | n + 1 => by rw [List.replicate_succ, List.flatten_cons, List.length_append, rep_flatten z n, Nat.succ_mul]; omega
theorem made_toList (z : Array Value) (n : Nat) : ∀ m, m ≤ n → (madeCells z (n * z.size)).toList.take (m * z.size) = (List.replicate m z.toList).flatten
  | 0, _ => by simp
  | m + 1, hm => by
    have ih := made_toList z n m (by omega)
    have hsz : (madeCells z (n * z.size)).toList.length = n * z.size := by simp [madeCells]
    have hle : (m + 1) * z.size ≤ n * z.size := Nat.mul_le_mul_right _ hm
    rw [Nat.succ_mul] at hle
    rw [Nat.succ_mul, List.take_add, ih]
    have e : ((madeCells z (n * z.size)).toList.drop (m * z.size)).take z.size = z.toList := by
      apply List.ext_getElem
      · rw [List.length_take, List.length_drop, hsz, Array.length_toList]; omega
      · intro i h1 h2
        have hi : i < z.size := by simpa using h2
        rw [List.getElem_take, List.getElem_drop]
        have : (m * z.size + i) % z.size = i := by rw [Nat.mul_comm, Nat.mul_add_mod, Nat.mod_eq_of_lt hi]
        simp [madeCells, this, hi]
    rw [e, List.replicate_succ', List.flatten_append]
    simp
theorem rep_re {z : List PV} {zs : List Value} (h : ReL C z zs) : ∀ n, ReL C (List.replicate n z).flatten (List.replicate n zs).flatten
  | 0 => ReL.nil C
  | n + 1 => by
    rw [List.replicate_succ, List.replicate_succ, List.flatten_cons, List.flatten_cons]
    exact h.append (rep_re h n)
def aMakeSlice (P : Program) (t : TypeId) (l c : PV) (new : Nat) : R :=
  match P.underlying t, l, c with
  | some (.slice e), .val (.int _ l), .val (.int _ c) => match tsize P e, tbytes P e, tzero P e with
    | some sz, some by_, some z => ⟨0 ≤ l ∧ l ≤ c ∧ (by_ : Int) * c ≤ 281474976710656 ∧ c ≤ 9223372036854775807 ∧ z.length = sz ∧ ∀ x ∈ z, oneP x, .sl new sz 0 l.toNat, [(new, some ⟨e, sz, List.replicate l.toNat z, .cells⟩)]⟩
    | _, _, _ => .bad
  | _, _, _ => .bad
theorem makeSlice_ok {t : TypeId} {x y : Operand} (hr : Rel E C st a) (ho : o.op = .makeSlice t x y) (hn : C.ρ new = none) (hno : lookO st.obs new = none) (h : (aMakeSlice P t (evP st.regs x) (evP st.regs y) new).ok) :
    StepOk P E C st a o new (aMakeSlice P t (evP st.regs x) (evP st.regs y) new).v (aMakeSlice P t (evP st.regs x) (evP st.regs y) new).u := by
  have hx := hr.eval x
  have hy := hr.eval y
  generalize evP st.regs x = p at *
  generalize evP st.regs y = q at *
  generalize hxa : a.eval x = xv at *
  generalize hya : a.eval y = yv at *
  unfold aMakeSlice at *
  split at h
  · rename_i e kl l kc c hu
    split at h
    · rename_i sz by_ z hsz hby hz
      simp only [hsz, hby, hz]
      obtain ⟨h0, hlc, hbytes, h63, hzl, hz1⟩ := h
      cases hx; cases hy
      obtain ⟨zv, hzr, hzc, i, hi, hzi⟩ := tzero_run (C := C) hz hz1 C.W
      have hisz : i.size = sz := by unfold tsize at hsz; rw [hi] at hsz; simpa using hsz
      have hiby : i.bytes = by_ := by unfold tbytes at hby; rw [hi] at hby; simpa using hby
      have hrun := run_make (P := P) C.W t e i zv hu hi hzi kl kc l c h0 hlc (by rw [hiby]; exact hbytes) h63
      have hzs : zv.cells.size = sz := by have := hzc.1; rw [Array.length_toList (xs := zv.cells)] at this; omega
      have hrow : RowsOk sz (List.replicate l.toNat z) := fun r hr' => by rw [(List.mem_replicate.1 hr').2]; exact ⟨hzl, hz1⟩
      obtain ⟨cur, hcur⟩ : ∃ cur, cur = madeCells zv.cells (c.toNat * i.size) := ⟨_, rfl⟩
      rw [← hcur] at hrun
      have hcs : cur.size = c.toNat * sz := by rw [hcur, size_madeCells, hisz]
      have hre : ReL C (List.replicate l.toNat z).flatten (cur.toList.take (List.replicate l.toNat z).flatten.length) := by
        rw [rep_flatten, hzl, hcur, hisz, ← hzs, made_toList zv.cells c.toNat l.toNat (by omega)]
        exact rep_re hzc _
      refine .of_value (C' := C.push new (.cells cur e (0, 0))) (fun c => by rw [ho]; intro e; cases e) (x := .slice (some ⟨C.W.heap.size, 0, none⟩) l.toNat c.toNat) ?_ ?_
        (hr.push hn hno hrow hre) (Cx.le_push hr.sub hn) (fun k hk => by have : k ≠ new := fun e => hk (by omega); simp [Cx.push, this])
      · simp [execOp, ho, hxa, hya, hrun, Cx.push]
      · have := Re.sl (C := C.push new (.cells cur e (0, 0))) (nm := new) (sz := sz) (off := 0) (len := l.toNat) (cap := c.toNat) (b := C.W.heap.size) (cur := cur) (T := e) (fz := (0, 0)) (by simp [Cx.push]) (heap_alloc_new C.W _) (by omega) (by unfold maxLen; omega) (by rw [hcs, Nat.zero_add]; exact Nat.le_refl _)
        simpa using this
    · exact h.elim
  · exact h.elim

/-! ### A slice's literal -/
def chunk (sz : Nat) : Nat → List PV → List (List PV)
  | 0, _ => []
  | n + 1, cs => cs.take sz :: chunk sz n (cs.drop sz)
theorem chunk_flatten (sz : Nat) : ∀ (n : Nat) (cs : List PV), cs.length = n * sz → (chunk sz n cs).flatten = cs
  | 0, cs, h => by
    obtain rfl : cs = [] := List.eq_nil_of_length_eq_zero (by omega)
    rfl
  | n + 1, cs, h => by
    rw [Nat.succ_mul] at h
    rw [chunk, List.flatten_cons, chunk_flatten sz n _ (by rw [List.length_drop]; omega), List.take_append_drop]
theorem chunk_ok (sz : Nat) : ∀ (n : Nat) (cs : List PV), cs.length = n * sz → (∀ c ∈ cs, oneP c) → RowsOk sz (chunk sz n cs)
  | 0, cs, h, _ => fun r hr => absurd hr (by simp [chunk])
  | n + 1, cs, h, h1 => by
    rw [Nat.succ_mul] at h
    intro r hr
    rcases List.mem_cons.1 hr with e | e
    · rw [e]; exact ⟨by rw [List.length_take]; omega, fun c hc => h1 c (List.mem_of_mem_take hc)⟩
    · exact chunk_ok sz n _ (by rw [List.length_drop]; omega) (fun c hc => h1 c (List.mem_of_mem_drop hc)) r e
def aBuildSlice (P : Program) (t : TypeId) (len : Nat) (parts : List (Nat × PV)) (new : Nat) : R :=
  match P.underlying t with
  | some (.slice e) => if len = 0 then ⟨parts = [] ∧ (tsize P e).isSome = true, .nl, []⟩ else match tsize P e, tzero P e with
    | some sz, some z => match fillP (fun i => some (i * sz, sz)) (List.replicate len z).flatten parts with
      | some cs => ⟨partsOne parts ∧ z.length = sz ∧ 0 < len * sz ∧ len * sz ≤ 16777216 ∧ len ≤ maxLen ∧ cs.length = len * sz ∧ (∀ c ∈ cs, oneP c) ∧ ∀ c ∈ z, oneP c, .sl new sz 0 len, [(new, some ⟨e, sz, chunk sz len cs, .cells⟩)]⟩
      | none => .bad
    | _, _ => .bad
  | _ => .bad
theorem buildSlice_ok {t : TypeId} {len : Nat} {parts : Array (Nat × Operand)} (hr : Rel E C st a) (ho : o.op = .buildSlice t len parts) (hn : C.ρ new = none) (hno : lookO st.obs new = none)
    (h : (aBuildSlice P t len (partsP (evP st.regs) parts) new).ok) :
    StepOk P E C st a o new (aBuildSlice P t len (partsP (evP st.regs) parts) new).v (aBuildSlice P t len (partsP (evP st.regs) parts) new).u := by
  obtain ⟨p1, p2⟩ := partsP_re hr parts
  unfold aBuildSlice at *
  split at h
  · rename_i e hu
    by_cases hl0 : len = 0
    · subst hl0
      rw [if_pos rfl] at h ⊢
      obtain ⟨hp, hs⟩ := h
      obtain ⟨sz, hs⟩ := Option.isSome_iff_exists.1 hs
      have hp0 : parts = #[] := by
        unfold partsP at hp
        simpa using hp
      subst hp0
      have hr' : Rel E ⟨C.W.alloc (.cells #[] e), C.ρ, C.S⟩ st a := by
        refine hr.step (.mk' (fun _ h => h) (fun b hb => heap_alloc_old C.W _ (hr.sub b hb)) (fun _ _ h => h) (shp_alloc _ _)) (fun b h => .inl h) (fun b h => h) (fun _ _ _ => rfl) (fr_alloc C.W _)
      refine .of_value (C' := ⟨C.W.alloc (.cells #[] e), C.ρ, C.S⟩) (fun c => by rw [ho]; intro e; cases e) (x := .slice (some ⟨C.W.heap.size, 0, none⟩) 0 0) ?_ .nl hr' (.mk' (fun _ h => h) (fun b hb => heap_alloc_old C.W _ (hr.sub b hb)) (fun _ _ h => h) (shp_alloc _ _)) (fun _ _ => rfl)
      have he : Array.map (fun _ => (default : Value)) (Array.range 0) = #[] := by
        apply Array.toList_inj.1; simp
      simp [execOp, ho, Instr.buildSlice, run_underlying hu, tsize_run hs, Instr.fill, newRow, he]
    rw [if_neg hl0] at h ⊢
    split at h
    · rename_i sz z hsz hz
      split at h
      · rename_i cs hcs
        simp only [hsz, hz, hcs]
        obtain ⟨hone, hzl, hpos, hle, hml, hcl, hc1, hz1⟩ := h
        obtain ⟨zv, hzr, hzc, i, hi, hzi⟩ := tzero_run (C := C) hz hz1 C.W
        have hzs : zv.cells.size = sz := by have := hzc.1; rw [Array.length_toList (xs := zv.cells)] at this; omega
        obtain ⟨cur0, hcur0⟩ : ∃ cur0, cur0 = madeCells zv.cells (len * sz) := ⟨_, rfl⟩
        have hc0 : cur0.toList = (List.replicate len zv.cells.toList).flatten := by
          have := made_toList zv.cells len len (Nat.le_refl _)
          rw [hzs] at this
          rw [hcur0, ← this, List.take_of_length_le (by simp [madeCells])]
        obtain ⟨vs', hf, hre⟩ := fill_ok (vs := cur0) p1 p2 (partsOne_all hone) (by rw [hc0]; exact rep_re hzc _) hcs
        have hvl : vs'.size = len * sz := by have := hre.1; rw [Array.length_toList (xs := vs')] at this; omega
        have hfl := chunk_flatten sz len cs hcl
        have hrow := chunk_ok sz len cs hcl hc1
        have hre2 : ReL C (chunk sz len cs).flatten (vs'.toList.take (chunk sz len cs).flatten.length) := by
          rw [hfl, List.take_of_length_le (by rw [Array.length_toList]; omega)]; exact hre
        refine .of_value (C' := C.push new (.cells vs' e (0, 0))) (fun c => by rw [ho]; intro e; cases e) (x := .slice (some ⟨C.W.heap.size, 0, none⟩) len len) ?_ ?_
          (hr.push hn hno hrow hre2) (Cx.le_push hr.sub hn) (fun k hk => by have : k ≠ new := fun e => hk (by omega); simp [Cx.push, this])
        · have h24 : ¬ 16777216 < len * sz := by omega
          have h0 : ¬ (len * sz = 0) := by omega
          have hmc : (Array.range (len * sz)).map (fun x => zv.cells[x % zv.cells.size]!) = cur0 := by rw [hcur0]; rfl
          simp only [execOp, ho, Instr.buildSlice, Sem.run_bind, run_underlying hu, Result.andThen_ok, tsize_run hsz, Nat.reducePow, gt_iff_lt, h24, if_false, h0, hzr, Sem.run_pure, hmc, partsV_eq, hf]
          simp [newRow, Cx.push]
        · have := Re.sl (C := C.push new (.cells vs' e (0, 0))) (nm := new) (sz := sz) (off := 0) (len := len) (cap := len) (b := C.W.heap.size) (cur := vs') (T := e) (fz := (0, 0)) (by simp [Cx.push]) (heap_alloc_new C.W _) (Nat.le_refl _) hml (by rw [hvl, Nat.zero_add]; exact Nat.le_refl _)
          simpa using this
      · exact h.elim
    · exact h.elim
  · exact h.elim
end
end Go.Proofs.Ytipolblhiljoiaa.Sy

namespace Go.Proofs.Ytipolblhiljoiaa.Sy
open Go Go.RowKit
set_option linter.unusedVariables false
set_option linter.unusedSimpArgs false

section
variable {P : Program} {E : En} {C : Cx} {st : St} {a : Act} {o : Oper} {new : Nat}

/-- The rows that a slice has. -/
def lowS (ob : Nat → Option Ob) : PV → Option (List (List PV))
  | .sl nm _ off len => match ob nm with
    | some o => some ((o.rows.drop off).take len)
    | none => none
  | .rd _ rows => some rows
  | .val (.slice none 0 0) => some []
  | .nl => some []
  | _ => none
def lowOk (sz : Nat) (ob : Nat → Option Ob) : PV → Prop
  | .sl nm sz' off len => sz' = sz ∧ ∀ o, ob nm = some o → o.k = .cells ∧ o.sz = sz ∧ off + len ≤ o.rows.length
  | .rd sz' _ => sz' = sz
  | _ => True
theorem low_re (hr : Rel E C st a) {p : PV} {v : Value} {rows : List (List PV)} {sz : Nat} (h : Re C p v) (hl : lowS (lookO st.obs) p = some rows) (hok : lowOk sz (lookO st.obs) p) :
    ∃ ad cap, v = .slice ad rows.length cap ∧ rows.length ≤ cap ∧ RowsOk sz rows ∧ (rows = [] ∨ ∃ b q cur T fz, ad = some ⟨b, q, none⟩ ∧ C.W.heap[b]? = some (.cells cur T fz) ∧ ReL C rows.flatten ((cur.toList.drop q).take rows.flatten.length)) := by
  unfold lowS at hl
  split at hl
  · rename_i nm sz' off len
    cases ho : lookO st.obs nm with
    | none => rw [ho] at hl; cases hl
    | some ob =>
      rw [ho] at hl
      cases hl
      obtain ⟨rfl, hob⟩ := hok
      obtain ⟨hk, hsz, hlen⟩ := hob ob ho
      obtain ⟨hrow, hh⟩ := hr.cells ho hk
      rw [hsz] at hrow
      have hll : ((ob.rows.drop off).take len).length = len := by rw [List.length_take, List.length_drop]; omega
      rw [hll]
      cases h with
      | sl hb hc h1 h2 h3 =>
        rename_i cap b cur T fz
        refine ⟨_, cap, rfl, h1, (hrow.drop _).take _, ?_⟩
        rcases hh with ⟨hz, _⟩ | ⟨b', cur', hb', hS, hc', hre⟩
        · rw [hb] at hz; cases hz
        · rw [hb] at hb'; cases hb'
          refine .inr ⟨b, off * sz', cur', ob.T, (0, 0), rfl, hc', ?_⟩
          have h4 := (hre.drop (off * sz')).take (len * sz')
          rw [flatten_drop _ hrow, flatten_take _ (hrow.drop _)] at h4
          have hfl := flatten_length ((hrow.drop off).take len)
          rw [hll] at hfl
          have hfl0 := flatten_length hrow
          have hb2 : off * sz' + len * sz' ≤ ob.rows.flatten.length := by rw [hfl0, ← Nat.add_mul]; exact Nat.mul_le_mul_right _ hlen
          rw [hfl]
          have e : (((cur'.toList.take ob.rows.flatten.length).drop (off * sz')).take (len * sz')) = (cur'.toList.drop (off * sz')).take (len * sz') := by
            rw [List.drop_take, List.take_take, Nat.min_eq_left (by omega)]
          rw [e] at h4
          exact h4
      | sl0 =>
        refine ⟨_, 0, rfl, Nat.le_refl _, (hrow.drop _).take _, .inl (by simp)⟩
  · rename_i sz' rows'
    cases hl
    have hok' : sz' = sz := hok
    subst hok'
    cases h with
    | rd hb hc hrow hx hcap hl' hre => exact ⟨_, _, rfl, hcap, hrow, .inr ⟨_, _, _, _, _, rfl, hc, by rw [hx]; exact ReL.mono C.nn_le ⟨hl', hre⟩⟩⟩
    | rd0 => exact ⟨_, _, rfl, Nat.zero_le _, fun r hr' => absurd hr' (by simp), .inl rfl⟩
  · cases hl; cases h
    exact ⟨none, 0, rfl, Nat.le_refl _, fun r hr' => absurd hr' (by simp), .inl rfl⟩
  · cases hl; cases h
    exact ⟨_, 0, rfl, Nat.le_refl _, fun r hr' => absurd hr' (by simp), .inl rfl⟩
  · cases hl
theorem low_news (hr : Rel E C st a) {p : PV} {v : Value} {rows : List (List PV)} {sz : Nat} (h : Re C p v) (hl : lowS (lookO st.obs) p = some rows) (hok : lowOk sz (lookO st.obs) p) :
    RowsOk sz rows ∧ ∃ news, news.length = rows.length * sz ∧ ReL C rows.flatten news ∧ (∀ u ∈ news, u.oneCell' = true) ∧
      ((rows = [] ∧ ∃ ad cap, v = .slice ad 0 cap) ∨ ∃ ad c, v = .slice (some ad) rows.length c ∧ ∀ j u, news[j]? = some u → C.W.cell? (ad.add j) = some u) := by
  obtain ⟨ad, cap, rfl, hcap, hrow, hh⟩ := low_re hr h hl hok
  refine ⟨hrow, ?_⟩
  have hfl := flatten_length hrow
  rcases hh with rfl | ⟨b, q, cur, T, fz, rfl, hc, hre⟩
  · exact ⟨[], by simp, ReL.nil C, by simp, .inl ⟨rfl, ad, cap, rfl⟩⟩
  · refine ⟨_, ?_, hre, hre.one hrow.one, .inr ⟨_, _, rfl, cells_at hc q ?_⟩⟩
    · rw [← hre.1, hfl]
    · rw [← hre.1]

/-! ### A text's bytes, and back -/
def u8row (n : Int) : List PV := [.val (.int .u8 n)]
def bytesI (s : ByteArray) : List Int := s.data.toList.map fun b => (b.toNat : Int)
def brow (s : ByteArray) : List (List PV) := (bytesI s).map u8row
def numsOf : List (List PV) → Option (List Int)
  | [] => some []
  | [.val (.int .u8 n)] :: r => (numsOf r).map (n :: ·)
  | _ :: _ => none
theorem numsOf_map : ∀ xs : List Int, numsOf (xs.map u8row) = some xs
  | [] => rfl
  | x :: xs => by
    show (numsOf (xs.map u8row)).map (x :: ·) = _
    rw [numsOf_map xs]; rfl
theorem numsOf_spec : ∀ (rows : List (List PV)) (xs : List Int), numsOf rows = some xs → rows = xs.map u8row
  | [], xs, h => by simp only [numsOf, Option.some.injEq] at h; subst h; rfl
  | r :: rows, xs, h => by
    unfold numsOf at h
    split at h
    · cases ‹_ :: _ = []›
    · rename_i n r' e
      cases e
      obtain ⟨ys, h1, h2⟩ := Option.map_eq_some_iff.1 h
      subst h2
      rw [numsOf_spec _ ys h1]; rfl
    · cases h
theorem u8rows_flatten : ∀ xs : List Int, (xs.map u8row).flatten = xs.map fun n => PV.val (.int .u8 n)
  | [] => rfl
  | x :: xs => by rw [List.map_cons, List.flatten_cons, u8rows_flatten xs]; rfl
theorem u8rows_ok (xs : List Int) : RowsOk 1 (xs.map u8row) := fun r hr => by
  obtain ⟨n, _, rfl⟩ := List.mem_map.1 hr
  exact ⟨rfl, fun c hc => by simp only [u8row, List.mem_singleton] at hc; rw [hc]; rfl⟩
def aConvert (P : Program) (src dst : TypeId) (p : PV) (ob : Nat → Option Ob) (sc : R) : R :=
  match P.underlying src, P.underlying dst, p with
  | some .string, some (.slice e), .val (.string s) => ⟨P.underlying e = some (.int .u8), .rd 1 (brow s), []⟩
  | some (.slice e), some .string, p => match lowS ob p with
    | some rows => match numsOf rows with
      | some xs => ⟨P.underlying e = some (.int .u8) ∧ lowOk 1 ob p, .val (.string (strOfNums xs)), []⟩
      | none => .bad
    | none => .bad
  | _, _, _ => sc
theorem convert_ok {src dst : TypeId} {x : Operand} (hr : Rel E C st a) (ho : o.op = .convert src dst x) (h : (aConvert P src dst (evP st.regs x) (lookO st.obs) (scal P (evP st.regs) o)).ok) :
    StepOk P E C st a o new (aConvert P src dst (evP st.regs x) (lookO st.obs) (scal P (evP st.regs) o)).v (aConvert P src dst (evP st.regs x) (lookO st.obs) (scal P (evP st.regs) o)).u := by
  have hx := hr.eval x
  unfold aConvert at *
  split at h
  · rename_i e s hs hd hp
    rw [hp] at hx
    generalize hxa : a.eval x = xv at *
    cases hx
    have hrun := run_bytes_of_string (P := P) C.W src dst e s hs hd h
    obtain ⟨cap, hcap⟩ : ∃ cap, cap = grownCap C.W s.size 0 e := ⟨_, rfl⟩
    rw [← hcap] at hrun
    have hge : s.size ≤ cap := by rw [hcap]; exact grownCap_ge _ _ _ _
    obtain ⟨cur, hcur⟩ : ∃ cur, cur = bytesRow s cap := ⟨_, rfl⟩
    rw [← hcur] at hrun
    have hct : cur.toList = (bytesI s).map (Value.int .u8) ++ List.replicate (cap - s.size) (.int .u8 0) := by
      rw [hcur]; simp [bytesRow, bytesI]
    have hbl : (bytesI s).length = s.size := by unfold bytesI; rw [List.length_map, Array.length_toList (xs := s.data)]; rfl
    let C' : Cx := ⟨C.W.drew.alloc (.cells cur e (cur.size, cur.size + 1)), C.ρ, fun b => C.S b ∨ b = C.W.heap.size⟩
    have hfr : Fr (fun _ => False) C.W C'.W := ⟨rfl, rfl, rfl, Nat.le_succ _, by simp [C'], fun b hb _ => heap_alloc_old C.W.drew _ hb, fun b c T fz hh => ⟨c, fz, (heap_alloc_old C.W.drew _ (Array.getElem?_eq_some_iff.1 hh).1).trans hh, rfl⟩⟩
    have hle : C.le C' := .mk' (fun _ h => .inl h) (fun b hb => hfr.block b (hr.sub b hb) (fun h => h)) (fun _ _ h => h) hfr.shp
    refine .of_value (C' := C') (fun c => by rw [ho]; intro e; cases e) (x := .slice (some ⟨C.W.heap.size, 0, none⟩) s.size cap) ?_ ?_
      (hr.step hle (fun b hb => hb.elim .inl (fun e => .inr ⟨by omega, by subst e; simp [C']⟩)) (fun _ h => .inl h) (fun _ _ _ => rfl) hfr) hle (fun _ _ => rfl)
    · simp [execOp, ho, hxa, hrun, C']
    · have hlen : (brow s).length = s.size := by simp [brow, hbl]
      have hfl : (brow s).flatten = (bytesI s).map fun n => PV.val (.int .u8 n) := u8rows_flatten _
      have := Re.rdL (C := C') (sz := 1) (rows := brow s) (b := C.W.heap.size) (p := 0) (cap := cap) (.inr rfl) (heap_alloc_new C.W.drew _) (u8rows_ok _) (by rw [hlen]; exact hge) (by
        rw [hfl, hct, List.drop_zero, List.length_map, hbl, List.take_left' (by simp [hbl])]
        exact ⟨by simp, fun i h1 h2 => by rw [List.getElem_map, List.getElem_map]; exact .val _⟩)
      rw [hlen] at this
      exact this
  · rename_i e hs hd
    split at h
    · rename_i rows hl
      split at h
      · rename_i xs hxs
        simp only [hl, hxs]
        obtain ⟨he, hok⟩ := h
        generalize hxa : a.eval x = xv at *
        obtain ⟨ad, cap, rfl, hcap, hrow, hh⟩ := low_re hr hx hl hok
        have hrows := numsOf_spec _ _ hxs
        subst hrows
        refine .of_look (fun c => by rw [ho]; intro e; cases e) (x := .string (strOfNums xs)) ?_ (.val _) hr
        have hrun : (convert src dst (.slice ad (xs.map u8row).length cap)).run P C.W = .ok (.string (strOfNums xs)) C.W := by
          rcases hh with h0 | ⟨b, q, cur, T, fz, rfl, hc, hre⟩
          · have : xs = [] := by simpa using h0
            subst this
            cases ad with
            | none => exact run_convert_bytes_nil C.W src e hs he _ _ dst hd
            | some ad => 
              show (convert src dst (.slice (some ad) 0 cap)).run P C.W = _
              rw [run_convert_bytes_string C.W src dst e (some ad) 0 cap hs he hd]
              simp [Conv.bytesToString, loadCells, loadCellsFrom, strOfNums]
              rfl
          · refine run_convert_bytes_arg C.W src e hs he b q _ cap xs (by simp) (fun i hi => ?_) dst hd
            rw [u8rows_flatten] at hre
            obtain ⟨ys, hys⟩ : ∃ ys, (cur.toList.drop q).take (xs.map fun n => PV.val (.int .u8 n)).length = ys := ⟨_, rfl⟩
            rw [hys] at hre
            have hi' : i < xs.length := by simpa using hi
            have hiy : i < ys.length := by rw [← hre.1]; simpa using hi'
            have h1 := hre.2 i (by simpa using hi') hiy
            rw [List.getElem_map] at h1
            have h2 := cells_at hc q (xs := ys) (by rw [← hre.1]; exact hys) i _ (List.getElem?_eq_getElem hiy)
            rw [add_plain] at h2
            rw [h2]
            generalize ys[i] = y at h1
            cases h1
            simp [hi']
        rw [List.length_map] at hrun hxa
        simp [execOp, ho, hxa, hrun]
      · exact h.elim
    · exact h.elim
  · exact scal_ok hr h

/-! ### append -/
def dstOk (P : Program) (e : TypeId) (sz : Nat) (ob : Nat → Option Ob) : PV → Prop
  | .val (.slice none 0 0) => True
  | .nl => True
  | .sl nm sz' off len => off = 0 ∧ sz' = sz ∧ ∀ o, ob nm = some o → o.k = .cells ∧ o.T = e ∧ o.sz = sz ∧ len ≤ o.rows.length
  | _ => False
def dropOf : PV → Upd
  | .sl nm _ _ _ => [(nm, none)]
  | _ => []
def aAppend (P : Program) (t : TypeId) (p q : PV) (ob : Nat → Option Ob) (new : Nat) : R :=
  match P.underlying t with
  | some (.slice e) => match tsize P e, tbytes P e, tzero P e with
    | some sz, some by_, some z => match lowS ob p, lowS ob q with
      | some dr, some sr => ⟨dstOk P e sz ob p ∧ lowOk sz ob q ∧ z.length = sz ∧ (∀ c ∈ z, oneP c) ∧ 0 < sz ∧ dr.length + sr.length ≤ 140737488355328 ∧ (dr.length + sr.length) * by_ ≤ 140737488355328,
          .sl new sz 0 (dr.length + sr.length), dropOf p ++ [(new, some ⟨e, sz, dr ++ sr, .cells⟩)]⟩
      | _, _ => .bad
    | _, _, _ => .bad
  | _ => .bad
theorem zeroCells_size (z : Array Value) (n : Nat) : (Builtin.zeroCells z n).size = n * z.size := by simp [Builtin.zeroCells]
/-- A live block's new contents, under a new name. -/
theorem updAt_drop_new {nm new : Nat} {x : Ob} (h : nm ≠ new) (l : List (Nat × Ob)) (k : Nat) : lookO (applyU l [(nm, none), (new, some x)]) k = if k = new then some x else if k = nm then none else lookO l k := by
  rw [lookO_applyU]
  simp only [updAt]
  by_cases e1 : new = k
  · simp [e1]
  · have e1' : ¬ k = new := fun h => e1 h.symm
    by_cases e2 : nm = k
    · subst e2; simp [e1, e1']
    · have e2' : ¬ k = nm := fun h => e2 h.symm
      simp [e1, e2, e1', e2']
/-- A name goes: nothing else turns. -/
theorem Rel.drop (hr : Rel E C st a) (nm : Nat) : Rel E C { st with obs := dropO st.obs nm } a := by
  have hl : ∀ k ob, lookO (dropO st.obs nm) k = some ob → lookO st.obs k = some ob := fun k ob h => by
    rw [lookO_dropO] at h
    split at h
    · cases h
    · exact h
  exact ⟨hr.size, hr.regs, fun k ob h => hr.obs k ob (hl k ob h), fun k k' b o1 o2 h1 h2 => hr.inj k k' b o1 o2 (hl k o1 h1) (hl k' o2 h2), fun k ob b h => hr.own k ob b (hl k ob h), hr.sub, hr.fr, hr.old, hr.up, hr.keep, hr.defs⟩
/-- A name for no block at all. -/
theorem Rel.void (hr : Rel E C st a) {nm : Nat} {T sz : Nat} (hn : C.ρ nm = none) (hno : lookO st.obs nm = none) : Rel E C { st with obs := applyU st.obs [(nm, some ⟨T, sz, [], .cells⟩)] } a := by
  have hl : ∀ k, lookO (applyU st.obs [(nm, some ⟨T, sz, [], .cells⟩)]) k = if nm = k then some ⟨T, sz, [], .cells⟩ else lookO st.obs k := fun k => by rw [lookO_applyU]; rfl
  refine ⟨hr.size, hr.regs, fun k ob h => ?_, fun k k' b o1 o2 h1 h2 h3 h4 => ?_, fun k ob b h h2 => ?_, hr.sub, hr.fr, hr.old, hr.up, hr.keep, hr.defs⟩
  · simp only [hl] at h
    by_cases e : nm = k
    · subst e; rw [if_pos rfl] at h; cases h
      exact .of_cells rfl (fun r hr' => absurd hr' (by simp)) (.inl ⟨hn, rfl⟩)
    · rw [if_neg e] at h; exact hr.obs k ob h
  · simp only [hl] at h1 h2
    by_cases e : nm = k
    · subst e; rw [hn] at h3; cases h3
    · by_cases e' : nm = k'
      · subst e'; rw [hn] at h4; cases h4
      · rw [if_neg e] at h1; rw [if_neg e'] at h2
        exact hr.inj k k' b o1 o2 h1 h2 h3 h4
  · simp only [hl] at h
    by_cases e : nm = k
    · subst e; rw [hn] at h2; cases h2
    · rw [if_neg e] at h; exact hr.own k ob b h h2
theorem lookO_none_drop {l : List (Nat × Ob)} {n m : Nat} (h : lookO l m = none) : lookO (dropO l n) m = none := by
  rw [lookO_dropO]; split
  · rfl
  · exact h
theorem drewPush {C : Cx} (nm : Nat) (ob : Obj) : (⟨C.W.drew, C.ρ, C.S⟩ : Cx).push nm ob = ⟨C.W.drew.alloc ob, fun k => if k = nm then some C.W.heap.size else C.ρ k, C.S⟩ := rfl
theorem le_drew (C : Cx) : C.le ⟨C.W.drew, C.ρ, C.S⟩ := .mk' (fun _ h => h) (fun _ _ => rfl) (fun _ _ h => h) (Shp.refl _)
theorem Rel.drew (hr : Rel E C st a) : Rel E ⟨C.W.drew, C.ρ, C.S⟩ st a :=
  hr.step (le_drew C) (fun _ h => .inl h) (fun _ h => h) (fun _ _ _ => rfl) ⟨rfl, rfl, rfl, Nat.le_succ _, Nat.le_refl _, fun _ _ _ => rfl, Shp.refl _⟩
/-- A new array: whatever lay in the old one, and what is new. -/
theorem grow_ok (hd : ∀ c, o.op ≠ .defer c) (hr : Rel E C st a) {nms : Upd} {st' : St} (hst' : Rel E C st' a) (hu : applyU st.obs nms = st'.obs) (hs1 : st'.n = st.n) (hs2 : st'.regs = st.regs) (hs3 : st'.new = st.new)
    (hn : C.ρ new = none) (hno : lookO st'.obs new = none) {e sz n : Nat} {rows : List (List PV)} {cur : Array Value} {cap : Nat} (hrow : RowsOk sz rows) (hlen : rows.length = n) (hcap : n ≤ cap) (hmax : cap ≤ maxLen) (hcs : cap * sz ≤ cur.size)
    (hre : ReL C rows.flatten (cur.toList.take rows.flatten.length))
    (hrun : (execOp a.eval o).run P C.W = .ok (.value (.slice (some ⟨C.W.heap.size, 0, none⟩) n cap)) (C.W.drew.alloc (.cells cur e (0, 0)))) :
    StepOk P E C st a o new (.sl new sz 0 n) (nms ++ [(new, some ⟨e, sz, rows, .cells⟩)]) := by
  have hap : ∀ (u v : Upd) (l : List (Nat × Ob)), applyU l (u ++ v) = applyU (applyU l u) v := by
    intro u
    induction u with
    | nil => intro v l; rfl
    | cons x u ih =>
      intro v l
      obtain ⟨k, y⟩ := x
      cases y with
      | none => exact ih v (dropO l k)
      | some y => exact ih v ((k, y) :: dropO l k)
  have hp := (hst'.drew).push (nm := new) (T := e) (sz := sz) (rows := rows) (cur := cur) hn hno hrow (hre.mono (le_drew C))
  have hle : C.le ((⟨C.W.drew, C.ρ, C.S⟩ : Cx).push new (.cells cur e (0, 0))) := (le_drew C).trans (Cx.le_push hr.drew.sub hn)
  refine .of_value hd (C' := (⟨C.W.drew, C.ρ, C.S⟩ : Cx).push new (.cells cur e (0, 0))) hrun ?_ ?_ hle (fun k hk => by have : k ≠ new := fun e => hk (by omega); simp [Cx.push, this])
  · have := Re.sl (C := (⟨C.W.drew, C.ρ, C.S⟩ : Cx).push new (.cells cur e (0, 0))) (nm := new) (sz := sz) (off := 0) (len := n) (cap := cap) (b := C.W.heap.size) (cur := cur) (T := e) (fz := (0, 0)) (by simp [Cx.push]) (heap_alloc_new C.W.drew _) hcap hmax (by rw [Nat.zero_add]; exact hcs)
    simpa using this
  · rw [hap, hu]
    obtain ⟨n1, r1, o1, w1⟩ := st
    obtain ⟨n2, r2, o2, w2⟩ := st'
    simp only at hs1 hs2 hs3
    subst hs1; subst hs2; subst hs3
    exact hp
theorem append_ok {t : TypeId} {x y : Operand} (hr : Rel E C st a) (ho : o.op = .call { callee := .builtin .append, args := #[x, y], argTypes := #[t, t] }) (hn : C.ρ new = none) (hno : lookO st.obs new = none)
    (h : (aAppend P t (evP st.regs x) (evP st.regs y) (lookO st.obs) new).ok) :
    StepOk P E C st a o new (aAppend P t (evP st.regs x) (evP st.regs y) (lookO st.obs) new).v (aAppend P t (evP st.regs x) (evP st.regs y) (lookO st.obs) new).u := by
  have hx := hr.eval x
  have hy := hr.eval y
  generalize evP st.regs x = p at *
  generalize evP st.regs y = q at *
  generalize hxa : a.eval x = xv at *
  generalize hya : a.eval y = yv at *
  have hdf : ∀ c, o.op ≠ .defer c := fun c => by rw [ho]; intro e; cases e
  unfold aAppend at *
  split at h
  · rename_i e hu
    split at h
    · rename_i sz by_ z hsz hby hz
      split at h
      · rename_i dr sr hdr hsr
        simp only [hsz, hby, hz, hdr, hsr]
        obtain ⟨hdst, hlow, hzl, hz1, hpos, hmx, hbytes⟩ := h
        obtain ⟨zv, hzr, hzc, i, hi, hzi⟩ := tzero_run (C := C) hz hz1 C.W
        have hisz : i.size = sz := by unfold tsize at hsz; rw [hi] at hsz; simpa using hsz
        have hiby : i.bytes = by_ := by unfold tbytes at hby; rw [hi] at hby; simpa using hby
        have hzs : zv.cells.size = sz := by have := hzc.1; rw [Array.length_toList (xs := zv.cells)] at this; omega
        obtain ⟨hsrow, news, hnl, hnre, hn1, hncase⟩ := low_news hr hy hsr hlow
        have hex : ∀ {v : Value} {W' : World}, (Builtin.append_ #[t, t] o.type #[xv, yv]).run P C.W = .ok v W' → (execOp a.eval o).run P C.W = .ok (.value v) W' := fun {v W'} hh => by
          simp [execOp, ho, resolve, invoke, builtin, hxa, hya, hh]
        -- nothing is appended
        have hzero : ∀ ad n cap, xv = .slice ad n cap → n ≤ cap → sr = [] → (Builtin.append_ #[t, t] o.type #[xv, yv]).run P C.W = .ok (.slice ad n cap) C.W := by
          intro ad n cap hxv hnc hs
          subst hs
          have hyv : ∃ ad cap, yv = .slice ad 0 cap := by
            rcases hncase with ⟨_, ad, cap, h⟩ | ⟨ad, c, h, _⟩
            · exact ⟨ad, cap, h⟩
            · exact ⟨some ad, c, h⟩
          obtain ⟨ad', cap', hyv⟩ := hyv
          rw [hxv, hyv]
          cases ad' <;> cases ad <;> simp [Builtin.append_, run_underlying hu, sizeOf, typeInfo, hi, Builtin.lenOf, hnc, Builtin.firstCells, loadCells, loadCellsFrom, storeCells]
        cases p with
        | val v =>
          simp only [dstOk] at hdst
          split at hdst
          · rename_i hv
            cases hv
            cases hx
            have : dr = [] := by simpa [lowS] using hdr.symm
            subst this
            simp only [List.length_nil, Nat.zero_add, List.nil_append, dropOf] at hmx hbytes ⊢
            rcases hncase with ⟨hs, _⟩ | ⟨ad, c, hyv, hcells⟩
            · subst hs
              exact .of_value hdf (C' := C) (hex (hzero none 0 0 rfl (Nat.le_refl _) rfl)) .sl0 (hr.void hn hno) (Cx.le.refl C) (fun _ _ => rfl)
            · by_cases hs0 : sr.length = 0
              · have : sr = [] := List.eq_nil_of_length_eq_zero hs0
                subst this
                exact .of_value hdf (C' := C) (hex (hzero none 0 0 rfl (Nat.le_refl _) rfl)) .sl0 (hr.void hn hno) (Cx.le.refl C) (fun _ _ => rfl)
              · have hrun := run_append_nil (P := P) C.W t o.type e i zv hu hi hzi ad sr.length c news (by rw [hisz]; exact hnl) hcells (by omega) (by omega) (by rw [hiby]; omega)
                rw [← hyv] at hrun
                have hge := grownCap_ge C.W sr.length 0 e
                refine grow_ok hdf hr hr (nms := []) rfl rfl rfl rfl hn hno hsrow rfl hge (grownCap_le_maxLen _ _ _ _ (by unfold maxLen; omega)) ?_ ?_ (hex hrun)
                · simp only [Array.size_append, List.size_toArray, zeroCells_size, hzs, hnl, ← Nat.add_mul]
                  exact Nat.mul_le_mul_right _ (by omega)
                · rw [Array.toList_append, List.take_left' hnre.1.symm]; exact hnre
          · rename_i hv; cases hv
          · rename_i hv; cases hv
          · exact hdst.elim
        | sl nm sz' off len =>
          obtain ⟨rfl, rfl, hob⟩ := hdst
          cases hob' : lookO st.obs nm with
          | none => simp [lowS, hob'] at hdr
          | some ob =>
            obtain ⟨hk, hT, hosz, hlen⟩ := hob ob hob'
            have hnn : nm ≠ new := fun e => by subst e; rw [hob'] at hno; cases hno
            have hdr' : dr = ob.rows.take len := by simpa [lowS, hob'] using hdr.symm
            have hdl : dr.length = len := by rw [hdr', List.length_take]; omega
            obtain ⟨hrow, hh⟩ := hr.cells hob' hk
            rw [hosz] at hrow
            have hdrow : RowsOk sz' dr := by rw [hdr']; exact hrow.take _
            have hrows : RowsOk sz' (dr ++ sr) := hdrow.append hsrow
            rw [hdl] at hmx hbytes ⊢
            have hst' : Rel E C { st with obs := dropO st.obs nm } a := hr.drop nm
            have hno' : lookO (dropO st.obs nm) new = none := lookO_none_drop hno
            cases hx with
            | sl0 =>
              rename_i ad
              have hd0 : dr = [] := List.eq_nil_of_length_eq_zero hdl
              subst hd0
              simp only [Nat.zero_add, List.nil_append, dropOf] at hmx hbytes ⊢
              by_cases hs0 : sr.length = 0
              · have : sr = [] := List.eq_nil_of_length_eq_zero hs0
                subst this
                exact .of_value hdf (C' := C) (hex (hzero ad 0 0 rfl (Nat.le_refl _) rfl)) .sl0 (hst'.void hn hno') (Cx.le.refl C) (fun _ _ => rfl)
              · rcases hncase with ⟨hs, _⟩ | ⟨ad2, c, hyv, hcells⟩
                · exact absurd (by rw [hs]; rfl) hs0
                · have hge := grownCap_ge C.W sr.length 0 e
                  have hmm := grownCap_le_maxLen C.W sr.length 0 e (by unfold maxLen; omega)
                  have hc2 : ReL C sr.flatten ((news.toArray ++ Builtin.zeroCells zv.cells (grownCap C.W sr.length 0 e - sr.length)).toList.take sr.flatten.length) := by
                    rw [Array.toList_append, List.take_left' hnre.1.symm]; exact hnre
                  have hc3 : grownCap C.W sr.length 0 e * sz' ≤ (news.toArray ++ Builtin.zeroCells zv.cells (grownCap C.W sr.length 0 e - sr.length)).size := by
                    simp only [Array.size_append, List.size_toArray, zeroCells_size, hzs, hnl, ← Nat.add_mul]
                    exact Nat.mul_le_mul_right _ (by omega)
                  cases ad with
                  | none =>
                    have hrun := run_append_nil (P := P) C.W t o.type e i zv hu hi hzi ad2 sr.length c news (by rw [hisz]; exact hnl) hcells (by omega) (by omega) (by rw [hiby]; omega)
                    rw [← hyv] at hrun
                    exact grow_ok hdf hr hst' (nms := [(nm, none)]) rfl rfl rfl rfl hn hno' hsrow rfl hge hmm hc3 hc2 (hex hrun)
                  | some ad =>
                    have hrun := run_append_grow (P := P) C.W t o.type e i zv hu hi hzi ad 0 0 [] (by simp) (by simp) ad2 sr.length c news (by rw [hisz]; exact hnl) hcells (by omega) (by omega) (growslice_fits (by omega) (by rw [hiby, Nat.zero_add]; omega))
                    rw [← hyv] at hrun
                    simp only [Nat.zero_add, Array.empty_append] at hrun
                    exact grow_ok hdf hr hst' (nms := [(nm, none)]) rfl rfl rfl rfl hn hno' hsrow rfl hge hmm hc3 hc2 (hex hrun)
            | sl hb hc hle1 hle2 hfit =>
              rename_i cap b cur T0 fz0
              rcases hh with ⟨hz0, _⟩ | ⟨b', cur1, hb', hS, hc', hre⟩
              · rw [hb] at hz0; cases hz0
              · rw [hb] at hb'; cases hb'
                rw [hc] at hc'; cases hc'
                rw [hosz] at *
                simp only [Nat.zero_mul, Nat.zero_add, dropOf] at hfit ⊢
                have hfl := flatten_length hrow
                have hdfl : dr.flatten.length = len * sz' := by rw [flatten_length hdrow, hdl]
                have hcl : ob.rows.flatten.length ≤ cur.size := by
                  have := hre.1
                  rw [List.length_take, Array.length_toList (xs := cur)] at this; omega
                have hlf : len * sz' ≤ ob.rows.flatten.length := by rw [hfl]; exact Nat.mul_le_mul_right _ hlen
                have hdre : ReL C dr.flatten (cur.toList.take (len * sz')) := by
                  have := hre.take (len * sz')
                  rw [flatten_take _ hrow, List.take_take, Nat.min_eq_left hlf, ← hdr'] at this
                  exact this
                have hall : ReL C (dr ++ sr).flatten (cur.toList.take (len * sz') ++ news) := by
                  rw [List.flatten_append]; exact hdre.append hnre
                have hfa : (dr ++ sr).flatten.length = (len + sr.length) * sz' := by rw [flatten_length hrows, List.length_append, hdl]
                by_cases hroom : len + sr.length ≤ cap
                · -- it fits
                  obtain ⟨cur', hcur', hrun⟩ : ∃ cur' : Array Value, (cur'.size = cur.size ∧ cur'.toList.take ((len + sr.length) * sz') = cur.toList.take (len * sz') ++ news) ∧ (Builtin.append_ #[t, t] o.type #[.slice (some ⟨b, 0, none⟩) len cap, yv]).run P C.W = .ok (.slice (some ⟨b, 0, none⟩) (len + sr.length) cap) (C.W.setRow b cur') := by
                    rcases hncase with ⟨hs, _⟩ | ⟨ad, c, hyv, hcells⟩
                    · have h0 := hzero (some ⟨b, 0, none⟩) len cap (by simp) hle1 hs
                      subst hs
                      have : news = [] := List.eq_nil_of_length_eq_zero (by simpa using hnl)
                      subst this
                      refine ⟨cur, ⟨rfl, by simp⟩, ?_⟩
                      rw [setRow_self C.W b cur _ _ hc]
                      simpa using h0
                    · have hfit2 : len * i.size + news.length ≤ cur.size := by
                        rw [hisz, hnl, ← Nat.add_mul]; exact Nat.le_trans (Nat.mul_le_mul_right _ hroom) hfit
                      have hrun := run_append_room (P := P) C.W t o.type e i hu hi b len cap cur (by rw [← hT]; exact hc) ad sr.length c news (by rw [hisz]; exact hnl) hcells hn1 hroom hfit2
                      rw [← hyv] at hrun
                      refine ⟨_, ⟨?_, ?_⟩, hrun⟩
                      · simp only [List.size_toArray, List.length_append, List.length_take, List.length_drop, Array.length_toList (xs := cur)]; omega
                      · simp only [hisz]
                        rw [List.take_left']
                        rw [List.length_append, List.length_take, Array.length_toList (xs := cur), hnl, Nat.add_mul]
                        have : len * sz' ≤ cur.size := by omega
                        omega
                  obtain ⟨g1, g2⟩ := hr.mod (m := new) (ob' := ⟨e, sz', dr ++ sr, .cells⟩) (cur' := cur') (u := [(nm, none), (new, some ⟨e, sz', dr ++ sr, .cells⟩)]) hob' hb hc hT.symm hcur'.1 (.inr ⟨hn, hno⟩) hk rfl (updAt_drop_new hnn st.obs) hrows
                    (by rw [hfa, hcur'.2]; exact hall)
                  refine .of_value hdf (C' := C.row new b cur') (hex (by simpa [Cx.row] using hrun)) ?_ g1 g2 (fun k hk => by have : k ≠ new := fun e => hk (by omega); simp [Cx.row, this])
                  have := Re.sl (C := C.row new b cur') (nm := new) (sz := sz') (off := 0) (len := len + sr.length) (cap := cap) (b := b) (cur := cur') (T := ob.T) (fz := (0, 0)) (by simp [Cx.row]) (setRow_heap C.W b cur cur' _ _ hc) hroom hle2 (by rw [hcur'.1, Nat.zero_add]; exact hfit)
                  simpa using this
                · -- a new array
                  rcases hncase with ⟨hs, _⟩ | ⟨ad, c, hyv, hcells⟩
                  · subst hs; simp at hroom; omega
                  · have hol : (cur.toList.take (len * sz')).length = len * sz' := by rw [List.length_take, Array.length_toList (xs := cur)]; omega
                    have hrun := run_append_grow (P := P) C.W t o.type e i zv hu hi hzi ⟨b, 0, none⟩ len cap (cur.toList.take (len * sz')) (by rw [hisz]; exact hol) (cells_at hc 0 (by rw [hol]; simp)) ad sr.length c news (by rw [hisz]; exact hnl) hcells (by omega) (by omega) (growslice_fits (by omega) (by rw [hiby]; exact hbytes))
                    rw [← hyv] at hrun
                    have hge := grownCap_ge C.W (len + sr.length) cap e
                    refine grow_ok hdf hr hst' (nms := [(nm, none)]) rfl rfl rfl rfl hn hno' hrows (by rw [List.length_append, hdl]) hge (grownCap_le_maxLen _ _ _ _ (by unfold maxLen; omega)) ?_ ?_ (hex (by simpa using hrun))
                    · simp only [List.append_toArray, Array.size_append, List.size_toArray, List.length_append, zeroCells_size, hzs, hnl, hol, ← Nat.add_mul]
                      exact Nat.mul_le_mul_right _ (by omega)
                    · rw [Array.toList_append]
                      simp only [List.append_toArray]
                      rw [List.take_left' (by rw [hfa, List.length_append, hol, hnl, Nat.add_mul])]; exact hall
        | nl =>
          have hd0 : dr = [] := by simpa [lowS] using hdr.symm
          cases hx with
          | nl =>
            rename_i ad
            subst hd0
            simp only [List.length_nil, Nat.zero_add, List.nil_append, dropOf] at hmx hbytes ⊢
            by_cases hs0 : sr.length = 0
            · have : sr = [] := List.eq_nil_of_length_eq_zero hs0
              subst this
              exact .of_value hdf (C' := C) (hex (hzero ad 0 0 rfl (Nat.le_refl _) rfl)) .sl0 (hr.void hn hno) (Cx.le.refl C) (fun _ _ => rfl)
            · rcases hncase with ⟨hs, _⟩ | ⟨ad2, c, hyv, hcells⟩
              · exact absurd (by rw [hs]; rfl) hs0
              · have hge := grownCap_ge C.W sr.length 0 e
                have hmm := grownCap_le_maxLen C.W sr.length 0 e (by unfold maxLen; omega)
                have hc2 : ReL C sr.flatten ((news.toArray ++ Builtin.zeroCells zv.cells (grownCap C.W sr.length 0 e - sr.length)).toList.take sr.flatten.length) := by
                  rw [Array.toList_append, List.take_left' hnre.1.symm]; exact hnre
                have hc3 : grownCap C.W sr.length 0 e * sz ≤ (news.toArray ++ Builtin.zeroCells zv.cells (grownCap C.W sr.length 0 e - sr.length)).size := by
                  simp only [Array.size_append, List.size_toArray, zeroCells_size, hzs, hnl, ← Nat.add_mul]
                  exact Nat.mul_le_mul_right _ (by omega)
                cases ad with
                | none =>
                  have hrun := run_append_nil (P := P) C.W t o.type e i zv hu hi hzi ad2 sr.length c news (by rw [hisz]; exact hnl) hcells (by omega) (by omega) (by rw [hiby]; omega)
                  rw [← hyv] at hrun
                  exact grow_ok hdf hr hr (nms := []) rfl rfl rfl rfl hn hno hsrow rfl hge hmm hc3 hc2 (hex hrun)
                | some ad =>
                  have hrun := run_append_grow (P := P) C.W t o.type e i zv hu hi hzi ad 0 0 [] (by simp) (by simp) ad2 sr.length c news (by rw [hisz]; exact hnl) hcells (by omega) (by omega) (growslice_fits (by omega) (by rw [hiby, Nat.zero_add]; omega))
                  rw [← hyv] at hrun
                  simp only [Nat.zero_add, Array.empty_append] at hrun
                  exact grow_ok hdf hr hr (nms := []) rfl rfl rfl rfl hn hno hsrow rfl hge hmm hc3 hc2 (hex hrun)
        | _ => exact hdst.elim
      · exact h.elim
    · exact h.elim
  · exact h.elim
end
end Go.Proofs.Ytipolblhiljoiaa.Sy

namespace Go.Proofs.Ytipolblhiljoiaa.Sy
open Go Go.RowKit
set_option linter.unusedVariables false
set_option linter.unusedSimpArgs false

section
variable {P : Program} {E : En} {C : Cx} {st : St} {a : Act} {o : Oper} {new : Nat}
def aAppendS (P : Program) (t u : TypeId) (p q : PV) (ob : Nat → Option Ob) (new : Nat) : R :=
  match q with
  | .val (.string s) => match P.underlying t, P.underlying u with
    | some (.slice e), some .string => match tsize P e, tbytes P e, tzero P e with
      | some sz, some by_, some z => match lowS ob p with
        | some dr => ⟨dstOk P e 1 ob p ∧ sz = 1 ∧ z.length = 1 ∧ (∀ c ∈ z, oneP c) ∧ dr.length + s.size ≤ 140737488355328 ∧ (dr.length + s.size) * by_ ≤ 140737488355328,
            .sl new 1 0 (dr.length + s.size), dropOf p ++ [(new, some ⟨e, 1, dr ++ brow s, .cells⟩)]⟩
        | none => .bad
      | _, _, _ => .bad
    | _, _ => .bad
  | _ => .bad
theorem brow_flatten (s : ByteArray) : (brow s).flatten = (bytesI s).map fun n => PV.val (.int .u8 n) := u8rows_flatten _
theorem strCells_reL (C : Cx) (s : ByteArray) : ReL C (brow s).flatten (Lib.strCells s) := by
  rw [brow_flatten]
  have e : Lib.strCells s = (bytesI s).map fun n => Value.int .u8 n := by
    simp [Lib.strCells, bytesI]
  rw [e]
  refine ⟨by simp, fun i h1 h2 => ?_⟩
  simp only [List.getElem_map]
  exact .val _
theorem brow_len (s : ByteArray) : (brow s).length = s.size := by
  simp [brow, bytesI]
theorem appendS_ok {t u : TypeId} {x y : Operand} (hr : Rel E C st a) (ho : o.op = .call { callee := .builtin .append, args := #[x, y], argTypes := #[t, u] }) (hn : C.ρ new = none) (hno : lookO st.obs new = none)
    (h : (aAppendS P t u (evP st.regs x) (evP st.regs y) (lookO st.obs) new).ok) :
    StepOk P E C st a o new (aAppendS P t u (evP st.regs x) (evP st.regs y) (lookO st.obs) new).v (aAppendS P t u (evP st.regs x) (evP st.regs y) (lookO st.obs) new).u := by
  have hx := hr.eval x
  have hy := hr.eval y
  generalize evP st.regs x = p at *
  generalize evP st.regs y = q at *
  generalize hxa : a.eval x = xv at *
  generalize hya : a.eval y = yv at *
  have hdf : ∀ c, o.op ≠ .defer c := fun c => by rw [ho]; intro e; cases e
  unfold aAppendS at *
  split at h
  · rename_i s
    cases hy
    split at h
    · rename_i e hu hus
      split at h
      · rename_i sz by_ z hsz hby hz
        split at h
        · rename_i dr hdr
          simp only [hu, hus, hsz, hby, hz, hdr]
          obtain ⟨hdst, hsz1, hzl, hz1, hmx, hbytes⟩ := h
          subst hsz1
          obtain ⟨zv, hzr, hzc, i, hi, hzi⟩ := tzero_run (C := C) hz hz1 C.W
          have hisz : i.size = 1 := by unfold tsize at hsz; rw [hi] at hsz; simpa using hsz
          have hiby : i.bytes = by_ := by unfold tbytes at hby; rw [hi] at hby; simpa using hby
          have hzs : zv.cells.size = 1 := by have := hzc.1; rw [Array.length_toList (xs := zv.cells)] at this; omega
          have hsrow : RowsOk 1 (brow s) := u8rows_ok _
          have hnre : ReL C (brow s).flatten (Lib.strCells s) := strCells_reL C s
          have hnl : (Lib.strCells s).length = s.size := Lib.strCells_length s
          have hbl : (brow s).length = s.size := brow_len s
          have hex : ∀ {v : Value} {W' : World}, (Builtin.append_ #[t, u] o.type #[xv, .string s]).run P C.W = .ok v W' → (execOp a.eval o).run P C.W = .ok (.value v) W' := fun {v W'} hh => by
            simp [execOp, ho, resolve, invoke, builtin, hxa, hya, hh]
          have hzero : ∀ ad n cap, xv = .slice ad n cap → n ≤ cap → s.size = 0 → (Builtin.append_ #[t, u] o.type #[xv, .string s]).run P C.W = .ok (.slice ad n cap) C.W := by
            intro ad n cap hxv hnc hs
            rw [hxv]
            have hf := Lib.run_firstCells_string (P := P) (w := C.W) 1 s
            rw [hs] at hf
            have hs0 : Lib.strCells s = [] := List.eq_nil_of_length_eq_zero (by rw [hnl, hs])
            rw [hs0] at hf
            cases ad <;> simp [Builtin.append_, run_underlying hu, run_underlying hus, sizeOf, typeInfo, hi, hisz, Builtin.lenOf, hs, hnc, hf, storeCells]
          have fresh : ∀ ad, xv = .slice ad 0 0 → dr = [] → ∀ (nms : Upd) (st' : St), Rel E C st' a → applyU st.obs nms = st'.obs → st'.n = st.n → st'.regs = st.regs → st'.new = st.new → lookO st'.obs new = none →
              StepOk P E C st a o new (.sl new 1 0 (dr.length + s.size)) (nms ++ [(new, some ⟨e, 1, dr ++ brow s, .cells⟩)]) := by
            intro ad hxv hd nms st' hst' hu1 hs1 hs2 hs3 hno'
            subst hd
            simp only [List.length_nil, Nat.zero_add, List.nil_append] at hmx hbytes ⊢
            by_cases hs0 : s.size = 0
            · have hb0 : brow s = [] := List.eq_nil_of_length_eq_zero (by rw [hbl, hs0])
              rw [hb0, hs0]
              have hap : ∀ (u v : Upd) (l : List (Nat × Ob)), applyU l (u ++ v) = applyU (applyU l u) v := by
                intro u
                induction u with
                | nil => intro v l; rfl
                | cons x u ih =>
                  intro v l
                  obtain ⟨k, y⟩ := x
                  cases y with
                  | none => exact ih v (dropO l k)
                  | some y => exact ih v ((k, y) :: dropO l k)
              refine .of_value hdf (C' := C) (hex (hzero ad 0 0 hxv (Nat.le_refl _) hs0)) .sl0 ?_ (Cx.le.refl C) (fun _ _ => rfl)
              rw [hap, hu1]
              have := hst'.void (T := e) (sz := 1) hn hno'
              obtain ⟨n1, r1, o1, w1⟩ := st
              obtain ⟨n2, r2, o2, w2⟩ := st'
              simp only at hs1 hs2 hs3
              subst hs1; subst hs2; subst hs3
              exact this
            · have hge := grownCap_ge C.W s.size 0 e
              have hmm := grownCap_le_maxLen C.W s.size 0 e (by unfold maxLen; omega)
              have hc2 : ReL C (brow s).flatten (((Lib.strCells s).toArray ++ Builtin.zeroCells zv.cells (grownCap C.W s.size 0 e - s.size)).toList.take (brow s).flatten.length) := by
                rw [Array.toList_append, List.take_left' hnre.1.symm]; exact hnre
              have hc3 : grownCap C.W s.size 0 e * 1 ≤ ((Lib.strCells s).toArray ++ Builtin.zeroCells zv.cells (grownCap C.W s.size 0 e - s.size)).size := by
                simp only [Array.size_append, List.size_toArray, zeroCells_size, hzs, hnl, ← Nat.add_mul]
                omega
              cases ad with
              | none =>
                have hrun := run_append_nil_string (P := P) C.W t u o.type e i zv hu hus hi hzi s (by omega) (by omega) (by rw [hiby]; omega)
                rw [← hxv] at hrun
                have e1 : s.data.map (fun b => Value.int .u8 b.toNat) = (Lib.strCells s).toArray := by apply Array.ext'; simp [Lib.strCells]
                rw [e1] at hrun
                exact grow_ok hdf hr hst' (nms := nms) hu1 hs1 hs2 hs3 hn hno' hsrow hbl hge hmm hc3 hc2 (hex hrun)
              | some ad =>
                have hrun := Lib.run_append_grow_string (P := P) (w := C.W) t u o.type e i zv hu hus hi hzi ad 0 0 [] (by simp) (by simp) s (by omega) (by omega) (growslice_fits (by omega) (by rw [hiby, Nat.zero_add]; omega))
                rw [← hxv] at hrun
                simp only [Nat.zero_add, Array.empty_append] at hrun
                exact grow_ok hdf hr hst' (nms := nms) hu1 hs1 hs2 hs3 hn hno' hsrow hbl hge hmm hc3 hc2 (hex hrun)
          cases p with
          | val v =>
            simp only [dstOk] at hdst
            split at hdst
            · rename_i hv
              cases hv
              cases hx
              have hd0 : dr = [] := by simpa [lowS] using hdr.symm
              exact fresh none rfl hd0 [] st hr rfl rfl rfl rfl hno
            · rename_i hv; cases hv
            · rename_i hv; cases hv
            · exact hdst.elim
          | nl =>
            have hd0 : dr = [] := by simpa [lowS] using hdr.symm
            cases hx with
            | nl =>
              rename_i ad
              exact fresh ad rfl hd0 [] st hr rfl rfl rfl rfl hno
          | sl nm sz' off len =>
            obtain ⟨rfl, rfl, hob⟩ := hdst
            cases hob' : lookO st.obs nm with
            | none => simp [lowS, hob'] at hdr
            | some ob =>
              obtain ⟨hk, hT, hosz, hlen⟩ := hob ob hob'
              have hnn : nm ≠ new := fun e => by subst e; rw [hob'] at hno; cases hno
              have hdr' : dr = ob.rows.take len := by simpa [lowS, hob'] using hdr.symm
              have hdl : dr.length = len := by rw [hdr', List.length_take]; omega
              obtain ⟨hrow, hh⟩ := hr.cells hob' hk
              rw [hosz] at hrow
              have hdrow : RowsOk 1 dr := by rw [hdr']; exact hrow.take _
              have hrows : RowsOk 1 (dr ++ brow s) := hdrow.append hsrow
              have hst' : Rel E C { st with obs := dropO st.obs nm } a := hr.drop nm
              have hno' : lookO (dropO st.obs nm) new = none := lookO_none_drop hno
              cases hx with
              | sl0 =>
                rename_i ad
                have hd0 : dr = [] := List.eq_nil_of_length_eq_zero hdl
                exact fresh ad rfl hd0 [(nm, none)] _ hst' rfl rfl rfl rfl hno'
              | sl hb hc hle1 hle2 hfit =>
                rename_i cap b cur T0 fz0
                rw [hdl] at hmx hbytes ⊢
                rcases hh with ⟨hz0, _⟩ | ⟨b', cur1, hb', hS, hc', hre⟩
                · rw [hb] at hz0; cases hz0
                · rw [hb] at hb'; cases hb'
                  rw [hc] at hc'; cases hc'
                  rw [hosz] at *
                  simp only [Nat.zero_mul, Nat.zero_add, Nat.mul_one, dropOf] at hfit ⊢
                  have hfl := flatten_length hrow
                  rw [Nat.mul_one] at hfl
                  have hdfl : dr.flatten.length = len := by rw [flatten_length hdrow, hdl, Nat.mul_one]
                  have hcl : ob.rows.flatten.length ≤ cur.size := by
                    have := hre.1
                    rw [List.length_take, Array.length_toList (xs := cur)] at this; omega
                  have hlf : len ≤ ob.rows.flatten.length := by rw [hfl]; exact hlen
                  have hdre : ReL C dr.flatten (cur.toList.take len) := by
                    have := hre.take (len * 1)
                    rw [flatten_take _ hrow, List.take_take, Nat.mul_one, Nat.min_eq_left hlf, ← hdr'] at this
                    exact this
                  have hall : ReL C (dr ++ brow s).flatten (cur.toList.take len ++ Lib.strCells s) := by
                    rw [List.flatten_append]; exact hdre.append hnre
                  have hfa : (dr ++ brow s).flatten.length = len + s.size := by rw [flatten_length hrows, List.length_append, hdl, hbl, Nat.mul_one]
                  by_cases hroom : len + s.size ≤ cap
                  · have hrun := Lib.run_append_room_string (P := P) (w := C.W) t u o.type e i hu hus hi hisz b len cap cur (by rw [← hT]; exact hc) s hroom (by omega)
                    obtain ⟨cur', hce⟩ : ∃ cur', cur' = (cur.toList.take len ++ Lib.strCells s ++ cur.toList.drop (len + s.size)).toArray := ⟨_, rfl⟩
                    have hcs : cur'.size = cur.size := by
                      rw [hce]
                      simp only [List.size_toArray, List.length_append, List.length_take, List.length_drop, Array.length_toList (xs := cur), hnl]; omega
                    have hct : cur'.toList.take (len + s.size) = cur.toList.take len ++ Lib.strCells s := by
                      rw [hce]
                      simp only
                      rw [List.take_left']
                      rw [List.length_append, List.length_take, Array.length_toList (xs := cur), hnl]
                      omega
                    rw [← hce] at hrun
                    obtain ⟨g1, g2⟩ := hr.mod (m := new) (ob' := ⟨e, 1, dr ++ brow s, .cells⟩) (cur' := cur') (u := [(nm, none), (new, some ⟨e, 1, dr ++ brow s, .cells⟩)]) hob' hb hc hT.symm hcs (.inr ⟨hn, hno⟩) hk rfl (updAt_drop_new hnn st.obs) hrows
                      (by rw [hfa, hct]; exact hall)
                    refine .of_value hdf (C' := C.row new b cur') (hex (by simpa [Cx.row] using hrun)) ?_ g1 g2 (fun k hk => by have : k ≠ new := fun e => hk (by omega); simp [Cx.row, this])
                    have := Re.sl (C := C.row new b cur') (nm := new) (sz := 1) (off := 0) (len := len + s.size) (cap := cap) (b := b) (cur := cur') (T := ob.T) (fz := (0, 0)) (by simp [Cx.row]) (setRow_heap C.W b cur cur' _ _ hc) hroom hle2 (by rw [hcs, Nat.zero_add, Nat.mul_one]; exact hfit)
                    simpa using this
                  · have hol : (cur.toList.take len).length = len := by rw [List.length_take, Array.length_toList (xs := cur)]; omega
                    have hrun := Lib.run_append_grow_string (P := P) (w := C.W) t u o.type e i zv hu hus hi hzi ⟨b, 0, none⟩ len cap (cur.toList.take len) (by rw [hisz, Nat.mul_one]; exact hol) (cells_at hc 0 (by rw [hol]; simp)) s (by omega) (by omega) (growslice_fits (by omega) (by rw [hiby]; exact hbytes))
                    have hge := grownCap_ge C.W (len + s.size) cap e
                    refine grow_ok hdf hr hst' (nms := [(nm, none)]) rfl rfl rfl rfl hn hno' hrows (by rw [List.length_append, hdl, hbl]) hge (grownCap_le_maxLen _ _ _ _ (by unfold maxLen; omega)) ?_ ?_ (hex (by simpa using hrun))
                    · simp only [List.append_toArray, Array.size_append, List.size_toArray, List.length_append, zeroCells_size, hzs, hnl, hol, ← Nat.add_mul]
                      omega
                    · rw [Array.toList_append]
                      simp only [List.append_toArray]
                      rw [List.take_left' (by rw [hfa, List.length_append, hol, hnl])]; exact hall
          | _ => exact hdst.elim
        · exact h.elim
      · exact h.elim
    · exact h.elim
  · exact h.elim
end
end Go.Proofs.Ytipolblhiljoiaa.Sy

namespace Go.Proofs.Ytipolblhiljoiaa.Sy
open Go Go.RowKit
set_option linter.unusedVariables false
set_option linter.unusedSimpArgs false

structure VR where
  ok : Prop
  v : Value
def VR.bad : VR := ⟨False, undef⟩
def isIfaceT (P : Program) (t : TypeId) : Bool := match P.underlying t with
  | some (.interface _) => true
  | _ => false
def isBoolT (P : Program) (t : TypeId) : Bool := match P.underlying t with
  | some .bool => true
  | _ => false
def intBin (op : BinOp) (k k' : IntKind) (a b : Int) : VR :=
  match op with
  | .shl => ⟨0 ≤ b, .int k (k.wrap (a * 2 ^ min b.toNat k.bits))⟩
  | .shr => ⟨0 ≤ b, .int k (a.fdiv (2 ^ min b.toNat k.bits))⟩
  | .add => ⟨k = k', .int k (k.wrap (a + b))⟩
  | .sub => ⟨k = k', .int k (k.wrap (a - b))⟩
  | .mul => ⟨k = k', .int k (k.wrap (a * b))⟩
  | .quo => ⟨k = k' ∧ b ≠ 0, .int k (k.wrap (a.tdiv b))⟩
  | .rem => ⟨k = k' ∧ b ≠ 0, .int k (a.tmod b)⟩
  | .and => ⟨k = k', .int k (k.wrap (BitVec.ofInt k.bits a &&& BitVec.ofInt k.bits b).toNat)⟩
  | .or => ⟨k = k', .int k (k.wrap (BitVec.ofInt k.bits a ||| BitVec.ofInt k.bits b).toNat)⟩
  | .xor => ⟨k = k', .int k (k.wrap (BitVec.ofInt k.bits a ^^^ BitVec.ofInt k.bits b).toNat)⟩
  | .andNot => ⟨k = k', .int k (k.wrap (BitVec.ofInt k.bits a &&& ~~~BitVec.ofInt k.bits b).toNat)⟩
  | .eql => ⟨k = k', .bool (decide (a = b))⟩
  | .neq => ⟨k = k', .bool (decide (a ≠ b))⟩
  | .lss => ⟨k = k', .bool (decide (a < b))⟩
  | .leq => ⟨k = k', .bool (decide (a ≤ b))⟩
  | .gtr => ⟨k = k', .bool (decide (b < a))⟩
  | .geq => ⟨k = k', .bool (decide (b ≤ a))⟩
def strBin (op : BinOp) (a b : ByteArray) : VR :=
  match op with
  | .add => ⟨a.size + b.size ≤ 9223372036854775807, .string (a ++ b)⟩
  | .eql => ⟨True, .bool (decide (a = b))⟩
  | .neq => ⟨True, .bool (decide (a ≠ b))⟩
  | .lss => ⟨True, .bool (Op.bytesLess a.toList b.toList)⟩
  | .leq => ⟨True, .bool (Op.bytesLess a.toList b.toList || decide (a = b))⟩
  | .gtr => ⟨True, .bool (!(Op.bytesLess a.toList b.toList || decide (a = b)))⟩
  | .geq => ⟨True, .bool (!Op.bytesLess a.toList b.toList)⟩
  | _ => .bad
theorem intBin_run {P : Program} {op : BinOp} {t : TypeId} {k k' : IntKind} {a b : Int} (W : World) (h : (intBin op k k' a b).ok) : (binOp op t (.int k a) (.int k' b)).run P W = .ok (intBin op k k' a b).v W := by
  cases op <;> simp only [intBin] at h <;> first
    | (subst h; simp [binOp, intBin, Op.intArith, Op.intBits, Op.intCmp]; done)
    | (obtain ⟨rfl, h⟩ := h; simp [binOp, intBin, Op.intDiv, h]; done)
    | (have : ¬ b < 0 := by omega
       simp [binOp, intBin, Op.shift, this]; done)
    | (subst h; simp [binOp, intBin, Op.intArith, Op.intBits, Op.intCmp]; rfl)
    | (subst h; simp [binOp, intBin, Op.intArith, Op.intBits, Op.intCmp, bne, BEq.beq])
theorem ba_toList_data (a : ByteArray) : a.toList = a.data.toList := by
  suffices h : ∀ (n i : Nat) (r : List UInt8), a.size - i = n → ByteArray.toList.loop a i r = r.reverse ++ a.data.toList.drop i by
    have := h (a.size - 0) 0 [] rfl
    simpa [ByteArray.toList] using this
  intro n
  induction n with
  | zero =>
    intro i r h
    unfold ByteArray.toList.loop
    rw [if_neg (by omega), List.drop_eq_nil_of_le (by rw [Array.length_toList (xs := a.data)]; show a.size ≤ i; omega)]
    simp
  | succ n ih =>
    intro i r h
    unfold ByteArray.toList.loop
    have hi : i < a.size := by omega
    rw [if_pos hi, ih (i + 1) _ (by omega)]
    have hd : a.data.toList.drop i = a.data.toList[i]'(by rw [Array.length_toList (xs := a.data)]; exact hi) :: a.data.toList.drop (i + 1) := List.drop_eq_getElem_cons _
    have hg : a.get! i = a.data.toList[i]'(by rw [Array.length_toList (xs := a.data)]; exact hi) := by
      have hi' : i < a.data.size := hi
      show a.data[i]! = _
      rw [getElem!_pos a.data i hi', Array.getElem_toList (xs := a.data) hi']
    rw [hd, hg]
    simp
theorem ba_beq (a b : ByteArray) : (a.toList == b.toList) = decide (a = b) := by
  have : a.toList = b.toList ↔ a = b := ⟨fun h => by
    rw [ba_toList_data, ba_toList_data] at h
    cases a; cases b; simp only [ByteArray.mk.injEq]; exact Array.toList_inj.1 h, fun h => by rw [h]⟩
  rw [Bool.eq_iff_iff]; simp [this]
theorem strBin_run {P : Program} {op : BinOp} {t : TypeId} {a b : ByteArray} (W : World) (h : (strBin op a b).ok) : (binOp op t (.string a) (.string b)).run P W = .ok (strBin op a b).v W := by
  cases op <;> simp only [strBin, VR.bad] at h
  case add =>
    have : ¬ (((a.size + b.size : Nat) : Int) > IntKind.i64.max) := by
      have : IntKind.i64.max = 9223372036854775807 := by decide
      omega
    simp [binOp, strBin, Op.stringOp, this]
    omega
  all_goals simp [binOp, strBin, Op.stringOp, ba_beq]
def vBin (P : Program) (op : BinOp) (t : TypeId) (x y : Value) (lit : Bool) : Option VR :=
  match x, y with
  | .int k a, .int k' b => some (intBin op k k' a b)
  | .string a, .string b => some (strBin op a b)
  | .bool a, .bool b => match op with
    | .eql => some ⟨isBoolT P t = true, .bool (decide (a = b))⟩
    | .neq => some ⟨isBoolT P t = true, .bool (decide (a ≠ b))⟩
    | _ => none
  | .iface u v, .nilIface => match op with
    | .eql => some ⟨isIfaceT P t = true, .bool false⟩
    | .neq => some ⟨isIfaceT P t = true, .bool true⟩
    | _ => none
  | .nilIface, .nilIface => match op with
    | .eql => some ⟨isIfaceT P t = true ∧ lit = true, .bool true⟩
    | .neq => some ⟨isIfaceT P t = true ∧ lit = true, .bool false⟩
    | _ => none
  | _, _ => none
def isLit : Operand → Bool
  | .const _ => true
  | _ => false
theorem isIfaceT_of {P : Program} {t : TypeId} (h : isIfaceT P t = true) : P.underlying t = some (.interface (P.methodsAt t)) := by
  unfold isIfaceT at h
  split at h
  · rename_i ms hu
    rw [hu]; simp [Program.methodsAt, hu]
  · cases h
theorem isBoolT_of {P : Program} {t : TypeId} (h : isBoolT P t = true) : P.underlying t = some .bool := by
  unfold isBoolT at h
  split at h
  · assumption
  · cases h
theorem vBin_run {P : Program} {op : BinOp} {t : TypeId} {x y : Value} {ox oy : Operand} {r : VR} (W : World) (he : vBin P op t x y (isLit ox || isLit oy) = some r) (h : r.ok) :
    (do eqGuard op t ox oy x y; binOp op t x y : Sem Value).run P W = .ok r.v W := by
  unfold vBin at he
  split at he
  · cases he
    have := intBin_run (P := P) (t := t) W h
    cases op <;> simpa [eqGuard] using this
  · cases he
    have := strBin_run (P := P) (t := t) W h
    cases op <;> simpa [eqGuard] using this
  · rename_i a b
    split at he
    · cases he
      have := run_eql_bool (P := P) (w := W) t a b (isBoolT_of h)
      simp only [eqGuard]
      simp [this]
      cases a <;> cases b <;> rfl
    · cases he
      have := run_neq_bool (P := P) (w := W) t a b (isBoolT_of h)
      simp only [eqGuard]
      simp [this]
      cases a <;> cases b <;> rfl
    · cases he
  · rename_i u v
    split at he
    · cases he
      have := run_eql_held_nil (P := P) (w := W) t u v (isIfaceT_of h)
      simp only [eqGuard]
      simp [this]
    · cases he
      have := run_neq_held_nil (P := P) (w := W) t u v (isIfaceT_of h)
      simp only [eqGuard]
      simp [this]
    · cases he
  · split at he
    · cases he
      have := run_eql_nil_nil (P := P) (w := W) t (isIfaceT_of h.1)
      have h2 := h.2
      cases ox <;> cases oy <;> first
        | (simp [isLit] at h2; done)
        | simp [eqGuard, this]
    · cases he
      have := run_neq_nil_nil (P := P) (w := W) t (isIfaceT_of h.1)
      have h2 := h.2
      cases ox <;> cases oy <;> first
        | (simp [isLit] at h2; done)
        | simp [eqGuard, this]
    · cases he
  · cases he
def vUn (op : UnOp) (x : Value) : Option Value :=
  match op, x with
  | .not, .bool b => some (.bool (!b))
  | .neg, .int k n => some (.int k (k.wrap (0 - n)))
  | _, _ => none
def aBin (P : Program) (op : BinOp) (t : TypeId) (ox oy : Operand) (p q : PV) (sc : R) : R :=
  match p, q with
  | .val x, .val y => match vBin P op t x y (isLit ox || isLit oy) with
    | some r => ⟨r.ok, .val r.v, []⟩
    | none => sc
  | _, _ => sc
def aUn (op : UnOp) (p : PV) (sc : R) : R :=
  match p with
  | .val x => match vUn op x with
    | some v => ⟨True, .val v, []⟩
    | none => sc
  | _ => sc
section
variable {P : Program} {E : En} {C : Cx} {st : St} {a : Act} {o : Oper} {new : Nat} {v : PV} {u : Upd}
theorem bin_ok {op : BinOp} {t t' : TypeId} {x y : Operand} (hr : Rel E C st a) (ho : o.op = .binOp op t x y t') (h : (aBin P op t x y (evP st.regs x) (evP st.regs y) (scal P (evP st.regs) o)).ok) :
    StepOk P E C st a o new (aBin P op t x y (evP st.regs x) (evP st.regs y) (scal P (evP st.regs) o)).v (aBin P op t x y (evP st.regs x) (evP st.regs y) (scal P (evP st.regs) o)).u := by
  have hx := hr.eval x
  have hy := hr.eval y
  unfold aBin at *
  split at h
  · rename_i xv yv hxv hyv
    split at h
    · rename_i r hv
      rw [hxv] at hx; rw [hyv] at hy
      generalize hxa : a.eval x = xa at *
      generalize hya : a.eval y = ya at *
      cases hx; cases hy
      simp only [hv]
      refine .of_look (fun c => by rw [ho]; intro e; cases e) (x := r.v) ?_ (.val _) hr
      have := vBin_run (P := P) C.W hv h
      simp only [execOp, ho, hxa, hya]
      simp only [Sem.run_bind, this]
      rfl
    · exact scal_ok hr h
  · exact scal_ok hr h
theorem un_ok {op : UnOp} {t : TypeId} {x : Operand} (hr : Rel E C st a) (ho : o.op = .unOp op t x) (h : (aUn op (evP st.regs x) (scal P (evP st.regs) o)).ok) :
    StepOk P E C st a o new (aUn op (evP st.regs x) (scal P (evP st.regs) o)).v (aUn op (evP st.regs x) (scal P (evP st.regs) o)).u := by
  have hx := hr.eval x
  unfold aUn at *
  split at h
  · rename_i xv hxv
    split at h
    · rename_i v hv
      rw [hxv] at hx
      generalize hxa : a.eval x = xa at *
      cases hx
      simp only [hv]
      refine .of_look (fun c => by rw [ho]; intro e; cases e) (x := v) ?_ (.val _) hr
      unfold vUn at hv
      split at hv
      · cases hv; simp [execOp, ho, hxa, Op.unary]
      · cases hv; simp [execOp, ho, hxa, Op.unary, Op.intArith]
      · cases hv
    · exact scal_ok hr h
  · exact scal_ok hr h
def aConv (P : Program) (s d : TypeId) (p : PV) (rest : R) : R :=
  match p, P.underlying d with
  | .val (.int k n), some (.int kd) => ⟨(P.underlying s).isSome = true, .val (.int kd (kd.wrap n)), []⟩
  | .val (.string x), some .string => ⟨(P.underlying s).isSome = true, .val (.string x), []⟩
  | _, _ => rest
theorem conv_ok {s d : TypeId} {x : Operand} {rest : R} (hr : Rel E C st a) (ho : o.op = .convert s d x) (hrest : rest.ok → StepOk P E C st a o new rest.v rest.u) (h : (aConv P s d (evP st.regs x) rest).ok) :
    StepOk P E C st a o new (aConv P s d (evP st.regs x) rest).v (aConv P s d (evP st.regs x) rest).u := by
  have hx := hr.eval x
  unfold aConv at *
  split at h
  · rename_i k n kd hxv hd
    rw [hxv] at hx
    generalize hxa : a.eval x = xa at *
    cases hx
    obtain ⟨ds, hs⟩ := Option.isSome_iff_exists.1 h
    simp only [hd]
    refine .of_look (fun c => by rw [ho]; intro e; cases e) (x := .int kd (kd.wrap n)) ?_ (.val _) hr
    simp [execOp, ho, hxa, convert, run_underlying hs, run_underlying hd, Conv.intToInt]
  · rename_i y hxv hd
    rw [hxv] at hx
    generalize hxa : a.eval x = xa at *
    cases hx
    obtain ⟨ds, hs⟩ := Option.isSome_iff_exists.1 h
    simp only [hd]
    refine .of_look (fun c => by rw [ho]; intro e; cases e) (x := .string y) ?_ (.val _) hr
    simp [execOp, ho, hxa, convert, run_underlying hs, run_underlying hd]
  · exact hrest h
def aMin (p q : PV) : R := match p, q with
  | .val (.int k x), .val (.int _ y) => ⟨True, .val (.int k (if y < x then y else x)), []⟩
  | _, _ => .bad
def aMax (p q : PV) : R := match p, q with
  | .val (.int k x), .val (.int _ y) => ⟨True, .val (.int k (if x < y then y else x)), []⟩
  | _, _ => .bad
theorem min_ok {x y : Operand} {ts : Array TypeId} (hr : Rel E C st a) (ho : o.op = .call { callee := .builtin .min, args := #[x, y], argTypes := ts }) (h : (aMin (evP st.regs x) (evP st.regs y)).ok) :
    StepOk P E C st a o new (aMin (evP st.regs x) (evP st.regs y)).v (aMin (evP st.regs x) (evP st.regs y)).u := by
  have hx := hr.eval x
  have hy := hr.eval y
  unfold aMin at *
  split at h
  · rename_i k n k' m h1 h2
    rw [h1] at hx; rw [h2] at hy
    generalize hxa : a.eval x = xv at *
    generalize hya : a.eval y = yv at *
    cases hx; cases hy
    refine .of_look (fun c => by rw [ho]; intro e; cases e) (x := .int k (if m < n then m else n)) ?_ (.val _) hr
    simp [execOp, ho, resolve, invoke, builtin, Builtin.min_, Builtin.min2, hxa, hya]
  · exact h.elim
theorem max_ok {x y : Operand} {ts : Array TypeId} (hr : Rel E C st a) (ho : o.op = .call { callee := .builtin .max, args := #[x, y], argTypes := ts }) (h : (aMax (evP st.regs x) (evP st.regs y)).ok) :
    StepOk P E C st a o new (aMax (evP st.regs x) (evP st.regs y)).v (aMax (evP st.regs x) (evP st.regs y)).u := by
  have hx := hr.eval x
  have hy := hr.eval y
  unfold aMax at *
  split at h
  · rename_i k n k' m h1 h2
    rw [h1] at hx; rw [h2] at hy
    generalize hxa : a.eval x = xv at *
    generalize hya : a.eval y = yv at *
    cases hx; cases hy
    refine .of_look (fun c => by rw [ho]; intro e; cases e) (x := .int k (if n < m then m else n)) ?_ (.val _) hr
    simp [execOp, ho, resolve, invoke, builtin, Builtin.max_, Builtin.max2, hxa, hya]
  · exact h.elim
end
end Go.Proofs.Ytipolblhiljoiaa.Sy

namespace Go.Proofs.Ytipolblhiljoiaa.Sy
open Go Go.RowKit
set_option linter.unusedVariables false
set_option linter.unusedSimpArgs false

def eqC (P : Program) (t : TypeId) (x y : PV) : Option (Prop × Bool) :=
  match P.underlying t, x, y with
  | some (.int _), .val (.int k a), .val (.int k' b) => some (k = k', decide (a = b))
  | some .string, .val (.string a), .val (.string b) => some (True, decide (a = b))
  | some .bool, .val (.bool a), .val (.bool b) => some (True, decide (a = b))
  | _, _, _ => none
def eqFs (P : Program) : List Field → List PV → List PV → Option (Prop × Bool)
  | [], _, _ => some (True, true)
  | f :: r, cs, ds => match eqC P f.type (cs.getD f.offset .un) (ds.getD f.offset .un), eqFs P r cs ds with
    | some (p, b), some (q, c) => some (f.name ≠ "_" ∧ (tsize P f.type).isSome = true ∧ p ∧ q, b && c)
    | _, _ => none
def aEqA (P : Program) (op : BinOp) (t : TypeId) (p q : PV) (rest : R) : R :=
  match p, q, op with
  | .agg cs, .agg ds, .eql => match eqFs P (P.fieldsOf t).toList cs ds with
    | some (h, b) => ⟨h ∧ P.underlying t = some (.struct (P.fieldsOf t)) ∧ P.stoodInHeld t = false ∧ P.eqGuardType P.depth t = false, .val (.bool b), []⟩
    | none => rest
  | .agg cs, .agg ds, .neq => match eqFs P (P.fieldsOf t).toList cs ds with
    | some (h, b) => ⟨h ∧ P.underlying t = some (.struct (P.fieldsOf t)) ∧ P.stoodInHeld t = false ∧ P.eqGuardType P.depth t = false, .val (.bool (!b)), []⟩
    | none => rest
  | _, _, _ => rest
section
variable {P : Program} {E : En} {C : Cx} {st : St} {a : Act} {o : Oper} {new : Nat}
theorem getD_re {cs : List PV} {vs : List Value} (h : ReL C cs vs) {off : Nat} {v : Value} (hc : cs.getD off .un = .val v) : ∃ hlt : off < cs.length, cs.getD off .un = cs[off] := by
  by_cases hlt : off < cs.length
  · exact ⟨hlt, by simp [hlt]⟩
  · rw [List.getD_eq_getElem?_getD, List.getElem?_eq_none (by omega)] at hc; cases hc
theorem eqC_run {t : TypeId} {x y : PV} {xv yv : Value} {p : Prop} {b : Bool} (d : Nat) (W : World) (he : eqC P t x y = some (p, b)) (hp : p) (hx : Re C x xv) (hy : Re C y yv) : (Op.equalIn (d + 1) t xv yv).run P W = .ok b W := by
  unfold eqC at he
  split at he
  · rename_i k0 k a k' b' hu
    cases he; cases hx; cases hy; subst hp
    rw [run_equalIn_int W d t k k0 a b' hu]; rfl
  · rename_i a b' hu
    cases he; cases hx; cases hy
    rw [run_equalIn_string W d t a b' hu, ba_beq]
  · rename_i a b' hu
    cases he; cases hx; cases hy
    rw [run_equalIn_bool' W d t a b' hu]
    cases a <;> cases b' <;> rfl
  · cases he
theorem eqC_scal {t : TypeId} {x y : PV} {r : Prop × Bool} (he : eqC P t x y = some r) : ∃ d, P.underlying t = some d ∧ isAggD d = false ∧ ∃ v w, x = .val v ∧ y = .val w := by
  unfold eqC at he
  split at he
  · rename_i hu; exact ⟨_, hu, rfl, _, _, rfl, rfl⟩
  · rename_i hu; exact ⟨_, hu, rfl, _, _, rfl, rfl⟩
  · rename_i hu; exact ⟨_, hu, rfl, _, _, rfl, rfl⟩
  · cases he
theorem eqFs_run (d : Nat) {cs ds : List PV} {vs ws : List Value} (hc : ReL C cs vs) (hd : ReL C ds ws) : ∀ (fs : List Field) (h : Prop) (b : Bool), eqFs P fs cs ds = some (h, b) → h → (Op.eqFields (d + 1) vs.toArray ws.toArray fs).run P C.W = .ok b C.W
  | [], h, b, he, hh => by
    simp only [eqFs, Option.some.injEq, Prod.mk.injEq] at he
    rw [← he.2]; rfl
  | f :: fs, h, b, he, hh => by
    unfold eqFs at he
    split at he
    · rename_i p b1 q b2 h1 h2
      simp only [Option.some.injEq, Prod.mk.injEq] at he
      obtain ⟨e1, e2⟩ := he
      rw [← e1] at hh
      obtain ⟨hn, hs, hp, hq⟩ := hh
      obtain ⟨n, hs⟩ := Option.isSome_iff_exists.1 hs
      obtain ⟨dd, hu, ha, v, w, hx, hy⟩ := eqC_scal h1
      obtain ⟨l1, g1⟩ := getD_re hc hx
      obtain ⟨l2, g2⟩ := getD_re hd hy
      obtain ⟨xv, r1, re1⟩ := part_run (P := P) hu hs hc f.offset (fun _ => l1)
      obtain ⟨yv, r2, re2⟩ := part_run (P := P) hu hs hd f.offset (fun _ => l2)
      have hrow : ∀ l : List PV, rowLoad dd n l f.offset = l.getD f.offset .un := fun l => by unfold rowLoad; rw [ha]; rfl
      rw [hrow] at re1 re2
      have r3 := eqC_run d C.W h1 hp re1 re2
      have ih := eqFs_run d hc hd fs q b2 h2 hq
      unfold Op.eqFields
      rw [if_pos hn, ← e2]
      simp only [Sem.run_bind, r1, r2, Result.andThen_ok, r3]
      cases b1
      · simp
      · simp [ih]
    · cases he
theorem eqA_ok {op : BinOp} {t t' : TypeId} {x y : Operand} {rest : R} (hr : Rel E C st a) (ho : o.op = .binOp op t x y t') (hrest : rest.ok → StepOk P E C st a o new rest.v rest.u) (h : (aEqA P op t (evP st.regs x) (evP st.regs y) rest).ok) :
    StepOk P E C st a o new (aEqA P op t (evP st.regs x) (evP st.regs y) rest).v (aEqA P op t (evP st.regs x) (evP st.regs y) rest).u := by
  have hx := hr.eval x
  have hy := hr.eval y
  generalize evP st.regs x = p at *
  generalize evP st.regs y = q at *
  generalize hxa : a.eval x = xa at *
  generalize hya : a.eval y = ya at *
  unfold aEqA at *
  split at h
  · rename_i cs ds
    split at h
    · rename_i hh b he
      obtain ⟨h1, h2, h3, h4⟩ := h
      cases hx with
      | agg hl hv =>
        cases hy with
        | agg hl' hv' =>
          have e := eqFs_run (P := P) 9998 ⟨hl, hv⟩ ⟨hl', hv'⟩ _ _ _ he h1
          simp only [he]
          refine .of_look (fun c => by rw [ho]; intro e; cases e) (x := .bool b) ?_ (.val _) hr
          simp only [execOp, ho, hxa, hya]
          simp only [Sem.run_bind, run_eqGuard_agg _ _ _ _ _ _ _ h4, Result.andThen_ok, run_eql_struct, run_equalIn_struct _ 9999 t _ _ h2 h3, e]
          rfl
    · exact hrest h
  · rename_i cs ds
    split at h
    · rename_i hh b he
      obtain ⟨h1, h2, h3, h4⟩ := h
      cases hx with
      | agg hl hv =>
        cases hy with
        | agg hl' hv' =>
          have e := eqFs_run (P := P) 9998 ⟨hl, hv⟩ ⟨hl', hv'⟩ _ _ _ he h1
          simp only [he]
          refine .of_look (fun c => by rw [ho]; intro e; cases e) (x := .bool (!b)) ?_ (.val _) hr
          simp only [execOp, ho, hxa, hya]
          simp only [Sem.run_bind, run_eqGuard_agg _ _ _ _ _ _ _ h4, Result.andThen_ok, run_neq_struct, run_equalIn_struct _ 9999 t _ _ h2 h3, e]
          rfl
    · exact hrest h
  · exact hrest h
/-! ### Arrays of plain values; a slice against nil -/
def eqIt (P : Program) (e : TypeId) : List Nat → List PV → List PV → Option (Prop × Bool)
  | [], _, _ => some (True, true)
  | i :: r, cs, ds => match eqC P e (cs.getD i .un) (ds.getD i .un), eqIt P e r cs ds with
    | some (p, b), some (q, c) => some (p ∧ q, b && c)
    | _, _ => none
theorem eqIt_run (d : Nat) {e : TypeId} (hs : tsize P e = some 1) {cs ds : List PV} {vs ws : List Value} (hc : ReL C cs vs) (hd : ReL C ds ws) : ∀ (is : List Nat) (h : Prop) (b : Bool), eqIt P e is cs ds = some (h, b) → h → (Op.eqItems (d + 1) e 1 vs.toArray ws.toArray is).run P C.W = .ok b C.W
  | [], h, b, he, hh => by
    simp only [eqIt, Option.some.injEq, Prod.mk.injEq] at he
    rw [← he.2]; rfl
  | i :: is, h, b, he, hh => by
    unfold eqIt at he
    split at he
    · rename_i p b1 q b2 h1 h2
      simp only [Option.some.injEq, Prod.mk.injEq] at he
      obtain ⟨e1, e2⟩ := he
      rw [← e1] at hh
      obtain ⟨hp, hq⟩ := hh
      obtain ⟨dd, hu, ha, v, w, hx, hy⟩ := eqC_scal h1
      obtain ⟨l1, g1⟩ := getD_re hc hx
      obtain ⟨l2, g2⟩ := getD_re hd hy
      obtain ⟨xv, r1, re1⟩ := part_run (P := P) hu hs hc i (fun _ => l1)
      obtain ⟨yv, r2, re2⟩ := part_run (P := P) hu hs hd i (fun _ => l2)
      have hrow : ∀ l : List PV, rowLoad dd 1 l i = l.getD i .un := fun l => by unfold rowLoad; rw [ha]; rfl
      rw [hrow] at re1 re2
      have r3 := eqC_run d C.W h1 hp re1 re2
      have ih := eqIt_run d hs hc hd is q b2 h2 hq
      unfold Op.eqItems
      rw [← e2]
      simp only [Nat.mul_one, Sem.run_bind, r1, r2, Result.andThen_ok, r3]
      cases b1
      · simp
      · simp [ih]
    · cases he
theorem cellsOf_tsize {e n : Nat} (h : tsize P e = some n) : P.cellsOf e = n ∧ ∃ i, P.info? e = some i := by
  unfold tsize at h
  obtain ⟨i, hi, rfl⟩ := Option.map_eq_some_iff.1 h
  exact ⟨by simp [Program.cellsOf, hi], i, hi⟩
/-- Whether a slice of so many elements is nil. -/
def nilB (n : Nat) : PV := if 0 < n then .val (.bool false) else .anyB
def nnilB (n : Nat) : PV := if 0 < n then .val (.bool true) else .anyB
def slLen : PV → Option Nat
  | .sl _ _ _ len => some len
  | .rd _ rows => some rows.length
  | .nl => some 0
  | _ => none
def aEqB (P : Program) (op : BinOp) (t : TypeId) (p q : PV) (rest : R) : R :=
  match P.underlying t with
  | some (.array n e) => match p, q, op with
    | .agg cs, .agg ds, .eql => match eqIt P e (List.range n) cs ds with
      | some (h, b) => ⟨h ∧ tsize P e = some 1 ∧ P.eqGuardType P.depth t = false, .val (.bool b), []⟩
      | none => rest
    | .agg cs, .agg ds, .neq => match eqIt P e (List.range n) cs ds with
      | some (h, b) => ⟨h ∧ tsize P e = some 1 ∧ P.eqGuardType P.depth t = false, .val (.bool (!b)), []⟩
      | none => rest
    | _, _, _ => rest
  | some (.slice _) => match slLen p, q, op with
    | some n, .val (.slice none 0 0), .eql => ⟨True, nilB n, []⟩
    | some n, .val (.slice none 0 0), .neq => ⟨True, nnilB n, []⟩
    | _, _, _ => rest
  | _ => rest
theorem eqNilIn_run (d : Nat) {t e : TypeId} (ad : Option Addr) (l c : Nat) (h : P.underlying t = some (.slice e)) (W : World) : (Op.equalIn (d + 1) t (.slice ad l c) (.slice none 0 0)).run P W = .ok ad.isNone W := by
  cases ad <;> simp [Op.equalIn, run_underlying h]
theorem eqNil_run {t e : TypeId} (ad : Option Addr) (l c : Nat) (h : P.underlying t = some (.slice e)) (W : World) : (Op.equal t (.slice ad l c) (.slice none 0 0)).run P W = .ok ad.isNone W := eqNilIn_run 9999 ad l c h W
theorem slLen_re {p : PV} {n : Nat} {v : Value} (h : slLen p = some n) (hp : Re C p v) : ∃ ad cap, v = .slice ad n cap ∧ (0 < n → ad.isSome = true) := by
  unfold slLen at h
  split at h
  · cases h
    cases hp with
    | sl => exact ⟨_, _, rfl, fun _ => rfl⟩
    | sl0 => exact ⟨_, _, rfl, fun h => absurd h (by omega)⟩
  · cases h
    cases hp with
    | rd => exact ⟨_, _, rfl, fun _ => rfl⟩
    | rd0 => exact ⟨_, _, rfl, fun h => absurd h (by simp)⟩
  · cases h
    cases hp with
    | nl => exact ⟨_, _, rfl, fun h => absurd h (by omega)⟩
  · cases h
theorem eqB_ok {op : BinOp} {t t' : TypeId} {x y : Operand} {rest : R} (hr : Rel E C st a) (ho : o.op = .binOp op t x y t') (hrest : rest.ok → StepOk P E C st a o new rest.v rest.u) (h : (aEqB P op t (evP st.regs x) (evP st.regs y) rest).ok) :
    StepOk P E C st a o new (aEqB P op t (evP st.regs x) (evP st.regs y) rest).v (aEqB P op t (evP st.regs x) (evP st.regs y) rest).u := by
  have hx := hr.eval x
  have hy := hr.eval y
  generalize evP st.regs x = p at *
  generalize evP st.regs y = q at *
  generalize hxa : a.eval x = xa at *
  generalize hya : a.eval y = ya at *
  unfold aEqB at *
  split at h
  · rename_i n e hu
    split at h
    · rename_i cs ds
      split at h
      · rename_i hh b he
        obtain ⟨h1, h2, h4⟩ := h
        obtain ⟨hce, i, hi⟩ := cellsOf_tsize h2
        cases hx with
        | agg hl hv =>
          cases hy with
          | agg hl' hv' =>
            have e := eqIt_run (P := P) 9998 h2 ⟨hl, hv⟩ ⟨hl', hv'⟩ _ _ _ he h1
            simp only [he]
            refine .of_look (fun c => by rw [ho]; intro e; cases e) (x := .bool b) ?_ (.val _) hr
            simp only [execOp, ho, hxa, hya]
            simp only [Sem.run_bind, run_eqGuard_agg _ _ _ _ _ _ _ h4, Result.andThen_ok, run_eql_struct, run_equalIn_array _ 9999 _ _ hu hi, hce, e]
            rfl
      · exact hrest h
    · rename_i cs ds
      split at h
      · rename_i hh b he
        obtain ⟨h1, h2, h4⟩ := h
        obtain ⟨hce, i, hi⟩ := cellsOf_tsize h2
        cases hx with
        | agg hl hv =>
          cases hy with
          | agg hl' hv' =>
            have e := eqIt_run (P := P) 9998 h2 ⟨hl, hv⟩ ⟨hl', hv'⟩ _ _ _ he h1
            simp only [he]
            refine .of_look (fun c => by rw [ho]; intro e; cases e) (x := .bool (!b)) ?_ (.val _) hr
            simp only [execOp, ho, hxa, hya]
            simp only [Sem.run_bind, run_eqGuard_agg _ _ _ _ _ _ _ h4, Result.andThen_ok, run_neq_struct, run_equalIn_array _ 9999 _ _ hu hi, hce, e]
            rfl
      · exact hrest h
    · exact hrest h
  · rename_i e hu
    split at h
    · rename_i n hn
      obtain ⟨ad, cap, rfl, had⟩ := slLen_re hn hx
      cases hy
      simp only [hn]
      refine .of_look (fun c => by rw [ho]; intro e; cases e) (x := .bool ad.isNone) ?_ ?_ hr
      · have h1 : (binOp .eql t (.slice ad n cap) (.slice none 0 0)).run P C.W = .ok (.bool ad.isNone) C.W := by
          simp only [binOp]
          simp [eqNil_run ad n cap hu]
        simp [execOp, ho, hxa, hya, eqGuard, h1]
      · unfold nilB
        split
        · rename_i h0
          have := had h0
          cases ad with
          | none => cases this
          | some ad => exact .val _
        · exact .anyB _
    · rename_i n hn
      obtain ⟨ad, cap, rfl, had⟩ := slLen_re hn hx
      cases hy
      simp only [hn]
      refine .of_look (fun c => by rw [ho]; intro e; cases e) (x := .bool (!ad.isNone)) ?_ ?_ hr
      · have h1 : (binOp .neq t (.slice ad n cap) (.slice none 0 0)).run P C.W = .ok (.bool (!ad.isNone)) C.W := by
          simp only [binOp]
          simp [eqNil_run ad n cap hu]
        simp [execOp, ho, hxa, hya, eqGuard, h1]
      · unfold nnilB
        split
        · rename_i h0
          have := had h0
          cases ad with
          | none => cases this
          | some ad => exact .val _
        · exact .anyB _
    · exact hrest h
  · exact hrest h
end
end Go.Proofs.Ytipolblhiljoiaa.Sy

namespace Go.Proofs.Ytipolblhiljoiaa.Sy
open Go Go.RowKit
set_option linter.unusedVariables false
set_option linter.unusedSimpArgs false

section
variable {P : Program} {E : En} {C : Cx} {st : St} {a : Act} {o : Oper} {new : Nat}
theorem Rel.putO (hr : Rel E C st a) {nm b : Nat} {ob ob' : Ob} {o0 o' : Obj} (h1 : lookO st.obs nm = some ob) (hb : C.ρ nm = some b) (h0 : C.W.heap[b]? = some o0) (hnc : ∀ (cur : Array Value) (T : TypeId) (fz : Nat × Nat), o0 ≠ .cells cur T fz)
    (hok : ∀ C' : Cx, C.le C' → C'.ρ = C.ρ → C'.S = C.S → C'.W.heap[b]? = some o' → ¬ C.S b → ObOk C' nm ob') :
    ∃ C' : Cx, C'.W = C.W.putObj b o' ∧ C'.ρ = C.ρ ∧ C.le C' ∧ Rel E C' { st with obs := applyU st.obs [(nm, some ob')] } a := by
  obtain ⟨q4, _⟩ := (hr.obs nm ob h1).blk hb
  obtain ⟨C', hC'⟩ : ∃ C' : Cx, C' = ⟨C.W.putObj b o', C.ρ, C.S⟩ := ⟨_, rfl⟩
  have eW : C'.W = C.W.putObj b o' := by rw [hC']
  have eρ : C'.ρ = C.ρ := by rw [hC']
  have eS : C'.S = C.S := by rw [hC']
  have hlt := (Array.getElem?_eq_some_iff.1 h0).1
  have hother : ∀ k, k ≠ b → C'.W.heap[k]? = C.W.heap[k]? := fun k hk => by rw [eW]; exact World.putObj_heap_other hk
  have hself : C'.W.heap[b]? = some o' := by rw [eW]; exact World.putObj_heap_same hlt
  have hsz : C'.W.heap.size = C.W.heap.size := by rw [eW]; simp
  have hcells : ∀ (k : Nat) (cur : Array Value) (T : TypeId) (fz : Nat × Nat), C.W.heap[k]? = some (.cells cur T fz) → C'.W.heap[k]? = some (.cells cur T fz) := fun k cur T fz h => (hother k (fun e => by subst e; rw [h0] at h; exact hnc cur T fz (Option.some.inj h))).trans h
  have hle : C.le C' := ⟨fun k cur T fz g1 g2 => ⟨by rw [eS]; exact g1, hcells k cur T fz g2⟩, fun n k h => by rw [eρ]; exact h, fun k cur T fz h => ⟨cur, fz, hcells k cur T fz h, rfl⟩⟩
  have hlk : ∀ k x, lookO (applyU st.obs [(nm, some ob')]) k = some x → (k = nm ∧ x = ob') ∨ (k ≠ nm ∧ lookO st.obs k = some x) := fun k x h => by
    rw [lookO_applyU] at h
    simp only [updAt] at h
    by_cases e : nm = k
    · rw [if_pos e] at h; exact .inl ⟨e.symm, (Option.some.inj h).symm⟩
    · rw [if_neg e] at h; exact .inr ⟨fun x => e x.symm, h⟩
  refine ⟨C', eW, eρ, hle, hr.size, fun t => (hr.regs t).mono hle, ?_, ?_, ?_, fun k hk' => by rw [hsz]; exact hr.sub k (by rw [← eS]; exact hk'), ?_, fun k hk' => hr.old k (by rw [← eS]; exact hk'), fun k cur T fz g1 g2 => by rw [eS]; exact hr.up k cur T fz g1 g2, fun n k h => by rw [eρ]; exact hr.keep n k h, hr.defs.of_fr (fun D hD hd => hother D (fun e => by
    subst e
    exact (hr.obs nm ob h1).not_deferred hb hd))⟩
  · intro k x h
    rcases hlk k x h with ⟨rfl, rfl⟩ | ⟨e, h⟩
    · exact hok C' hle eρ eS hself q4
    · refine (hr.obs k x h).frame hle (by rw [eρ]) (fun b2 g1 g2 _ => ⟨.inl (hother b2 (fun e3 => e (hr.inj k nm b x ob h h1 (e3 ▸ g1) hb))), by rw [eS]; exact g2⟩)
  · intro k k' b2 x x' g1 g2 g3 g4
    rw [eρ] at g3 g4
    have old : ∀ k x, lookO (applyU st.obs [(nm, some ob')]) k = some x → ∃ y, lookO st.obs k = some y := fun k x h => by
      rcases hlk k x h with ⟨rfl, _⟩ | ⟨_, h⟩
      · exact ⟨_, h1⟩
      · exact ⟨_, h⟩
    obtain ⟨y, hy⟩ := old k x g1
    obtain ⟨y', hy'⟩ := old k' x' g2
    exact hr.inj k k' b2 y y' hy hy' g3 g4
  · intro k x b2 g1 g2
    rw [eρ] at g2
    rcases hlk k x g1 with ⟨rfl, _⟩ | ⟨_, h⟩
    · exact hr.own k ob b2 h1 g2
    · exact hr.own k x b2 h g2
  · refine ⟨?_, ?_, ?_, ?_, by rw [hsz]; exact hr.fr.size, fun k hk' hM => ?_, ?_⟩
    · rw [eW]; exact hr.fr.os
    · rw [eW]; exact hr.fr.tape
    · rw [eW]; exact hr.fr.output
    · rw [eW]; exact hr.fr.drawn
    · have : k ≠ b := fun e => by
        subst e
        rcases hr.own nm ob k h1 hb with h | h
        · exact hM h
        · omega
      exact (hother k this).trans (hr.fr.block k hk' hM)
    · exact hr.fr.shp.trans hle.shp

/-! ### Keys -/
def keyD : TypeDesc → PV → PV → Option Bool
  | .int _, .val (.int k a), .val (.int k' b) => if k = k' then some (decide (a = b)) else none
  | .string, .val (.string a), .val (.string b) => some (decide (a = b))
  | _, _, _ => none
def keyOk : TypeDesc → PV → Prop
  | .int _, .val (.int _ _) => True
  | .string, .val (.string _) => True
  | _, _ => False
def findP (d : TypeDesc) (k : PV) : List (List PV) → Nat → Option (Option (Nat × PV))
  | [], _ => some none
  | r :: rs, i => match keyD d k (r.getD 0 .un) with
    | some true => some (some (i, r.getD 1 .un))
    | some false => findP d k rs (i + 1)
    | none => none
theorem ba_beqD (a b : ByteArray) : (a == b) = decide (a = b) := by
  cases a with | mk a => cases b with | mk b =>
  show (a == b) = _
  by_cases h : a = b
  · subst h; simp
  · simp [h]
theorem keyD_now {d : TypeDesc} {p q : PV} {v w : Value} {t : Bool} (h : keyD d p q = some t) (hp : Re C p v) (hq : Re C q w) : Instr.sameNow d v w = some t := by
  unfold keyD at h
  split at h
  · split at h
    · rename_i e
      subst e
      cases h; cases hp; cases hq
      simp only [Instr.sameNow, if_true]
      congr 1
    · cases h
  · cases h; cases hp; cases hq
    simp only [Instr.sameNow]
    congr 1
    exact ba_beqD _ _
  · cases h
theorem keyD_same {d : TypeDesc} {p q : PV} {v w : Value} (h : keyD d p q = some true) (hp : Re C p v) (hq : Re C q w) : v = w := by
  unfold keyD at h
  split at h
  · split at h
    · rename_i e
      subst e
      simp only [Option.some.injEq, decide_eq_true_eq] at h
      cases hp; cases hq; rw [h]
    · cases h
  · simp only [Option.some.injEq, decide_eq_true_eq] at h
    cases hp; cases hq; rw [h]
  · cases h
theorem mapCells_cons (e : MapEntry) (es : List MapEntry) : mapCells (e :: es).toArray = e.key :: e.val :: mapCells es.toArray := by simp [mapCells]
theorem mapCells_length (es : List MapEntry) : (mapCells es.toArray).length = 2 * es.length := by
  induction es with
  | nil => rfl
  | cons e es ih => rw [mapCells_cons, List.length_cons, List.length_cons, ih, List.length_cons]; omega
theorem findP_now {d : TypeDesc} {k : PV} {kv : Value} (hk : Re C k kv) : ∀ (rows : List (List PV)) (es : List MapEntry) (i : Nat), (∀ r ∈ rows, r.length = 2) → ReL C rows.flatten (mapCells es.toArray) → ∀ x, findP d k rows i = some x →
    (x = none ∧ Instr.findNow d kv es i = some none) ∨ ∃ j p v key, x = some (i + j, p) ∧ j < rows.length ∧ Re C p v ∧ Instr.findNow d kv es i = some (some (i + j, v)) ∧ es[j]? = some key ∧ key.key = kv ∧ key.val = v
  | [], es, i, h0, h, x, hx => by
    have : es = [] := by
      have := h.1
      rw [mapCells_length] at this
      exact List.eq_nil_of_length_eq_zero (by simp at this; omega)
    subst this
    simp only [findP, Option.some.injEq] at hx
    exact .inl ⟨hx.symm, rfl⟩
  | r :: rows, [], i, h0, h, x, hx => by
    have h1 := h0 r List.mem_cons_self
    have := h.1
    rw [mapCells_length, List.flatten_cons, List.length_append, h1] at this
    simp at this
  | r :: rows, e :: es, i, h0, h, x, hx => by
    have h1 := h0 r List.mem_cons_self
    obtain ⟨a, b, rfl⟩ : ∃ a b, r = [a, b] := by
      match r, h1 with
      | [a, b], _ => exact ⟨a, b, rfl⟩
    rw [mapCells_cons, List.flatten_cons] at h
    obtain ⟨g1, g2⟩ := h.head
    obtain ⟨g3, g4⟩ := g2.head
    unfold findP at hx
    split at hx
    · rename_i hkd
      cases hx
      refine .inr ⟨0, _, e.val, e, rfl, by simp, by simpa using g3, ?_, rfl, (keyD_same hkd hk g1).symm, rfl⟩
      simp only [Instr.findNow, keyD_now hkd hk g1]; rfl
    · rename_i hkd
      have ih := findP_now hk rows es (i + 1) (fun r hr => h0 r (List.mem_cons_of_mem _ hr)) g4 x hx
      have hs := keyD_now hkd hk g1
      rcases ih with ⟨rfl, k2⟩ | ⟨j, p, v, key, rfl, k0, k1, k2, k3, k4, k5⟩
      · exact .inl ⟨rfl, by simp only [Instr.findNow, hs]; exact k2⟩
      · refine .inr ⟨j + 1, p, v, key, by rw [show i + 1 + j = i + (j + 1) by omega], by simpa using k0, k1, ?_, by simpa using k3, k4, k5⟩
        simp only [Instr.findNow, hs]
        rw [k2, show i + 1 + j = i + (j + 1) by omega]
    · cases hx
theorem keyOk_run {d : TypeDesc} {kt : TypeId} {k : PV} {kv : Value} (hd : P.underlying kt = some d) (h : keyOk d k) (hk : Re C k kv) (em : Bool) (n : Nat) (W : World) : (Instr.checkKey em (n + 1) kt kv).run P W = .ok () W := by
  unfold keyOk at h
  split at h
  · cases hk; simp [Instr.checkKey, run_underlying hd]
  · cases hk; simp [Instr.checkKey, run_underlying hd]
  · exact h.elim
/-! ### A map's block, its length -/
def aMakeMap (r : Option PV) (new : Nat) : R := match r with
  | none => ⟨True, .mp new, [(new, some ⟨0, 2, [], .map⟩)]⟩
  | some _ => .bad
theorem makeMap_ok {t : TypeId} {x : Option Operand} (hr : Rel E C st a) (ho : o.op = .makeMap t x) (hn : C.ρ new = none) (hno : lookO st.obs new = none) (h : (aMakeMap (x.map (evP st.regs)) new).ok) :
    StepOk P E C st a o new (aMakeMap (x.map (evP st.regs)) new).v (aMakeMap (x.map (evP st.regs)) new).u := by
  cases x with
  | some y => exact h.elim
  | none =>
    have hp := hr.pushO (o := .map #[] 0) (ob := ⟨0, 2, [], .map⟩) hn hno ⟨by simp, C.W.heap.size, #[], 0, by simp [Cx.push], fun hs => by have := hr.sub _ hs; omega, heap_alloc_new C.W _, ReL.nil _⟩
    refine .of_value (C' := C.push new (.map #[] 0)) (fun c => by rw [ho]; intro e; cases e) (x := .map (some C.W.heap.size)) ?_ (.mp (by simp [Cx.push])) hp (Cx.le_push hr.sub hn) (fun k hk => by have : k ≠ new := fun e => hk (by omega); simp [Cx.push, this])
    have := run_makeMap_plain (P := P) (w := C.W) t
    simp [execOp, ho, this, Cx.push]
def aLenM (P : Program) (t : TypeId) (nm : Nat) (ob : Nat → Option Ob) : R := match P.underlying t, ob nm with
  | some (.map _ _), some o => ⟨o.k = .map, .val (.int .i64 o.rows.length), []⟩
  | _, _ => .bad
theorem pairs_length {rows : List (List PV)} (h : ∀ r ∈ rows, r.length = 2) : rows.flatten.length = 2 * rows.length := by
  induction rows with
  | nil => rfl
  | cons r rows ih =>
    rw [List.flatten_cons, List.length_append, h r List.mem_cons_self, ih (fun x hx => h x (List.mem_cons_of_mem _ hx)), List.length_cons]; omega
theorem map_at (hr : Rel E C st a) {nm : Nat} {ob : Ob} {v : Value} (h1 : lookO st.obs nm = some ob) (hk : ob.k = .map) (hv : Re C (.mp nm) v) :
    ∃ b es clock, C.ρ nm = some b ∧ v = .map (some b) ∧ (∀ r ∈ ob.rows, r.length = 2) ∧ C.W.heap[b]? = some (.map es clock) ∧ ReL C ob.rows.flatten (mapCells es) ∧ es.size = ob.rows.length := by
  obtain ⟨h0, b, es, cl, h2, h3, h4, h5⟩ := (hr.obs nm ob h1).map hk
  cases hv with
  | mp hb =>
    rw [h2] at hb; cases hb
    refine ⟨b, es, cl, h2, rfl, h0, h4, h5, ?_⟩
    have e1 := h5.1
    have e2 := mapCells_length es.toList
    rw [Array.toArray_toList] at e2
    rw [pairs_length h0, e2, Array.length_toList] at e1
    omega
theorem getObj_run {W : World} {b : Nat} {es : Array MapEntry} {cl : Nat} (h : W.heap[b]? = some (.map es cl)) : (getObj b).run P W = .ok (.map es cl) W := by
  simp [getObj, Sem.run, h]
theorem lenM_ok {t : TypeId} {x : Operand} {ts : Array TypeId} {nm : Nat} (hr : Rel E C st a) (ho : o.op = .call { callee := .builtin .len, args := #[x], argTypes := ts }) (ht : ts[0]? = some t) (hx : evP st.regs x = .mp nm)
    (h : (aLenM P t nm (lookO st.obs)).ok) : StepOk P E C st a o new (aLenM P t nm (lookO st.obs)).v (aLenM P t nm (lookO st.obs)).u := by
  have hxv := hr.eval x
  rw [hx] at hxv
  unfold aLenM at *
  split at h
  · rename_i kt et ob hu hob
    obtain ⟨b, es, cl, g1, g2, g3, g4, g5, g6⟩ := map_at hr hob h hxv
    simp only [hob]
    refine .of_look (fun c => by rw [ho]; intro e; cases e) (x := .int .i64 ob.rows.length) ?_ (.val _) hr
    simp [execOp, ho, resolve, invoke, builtin, Builtin.len_, ht, g2, run_underlying hu, goInt, getObj_run g4, g6]
  · exact h.elim
/-! ### What is there -/
def tzeroV (P : Program) (t : TypeId) : Option PV := ((P.info? t).bind (·.zero)).map cvt
def okV (commaOk : Bool) (v : PV) (t : Bool) : PV := if commaOk then .tup [v, .val (.bool t)] else v
def aLookup (P : Program) (t : TypeId) (p k : PV) (commaOk : Bool) (ob : Nat → Option Ob) : R := match P.underlying t, p with
  | some (.map kt et), .mp nm => match P.underlying kt, ob nm with
    | some d, some o => match findP d k o.rows 0 with
      | some (some (_, v)) => ⟨o.k = .map ∧ keyOk d k, okV commaOk v true, []⟩
      | some none => match tzeroV P et with
        | some z => ⟨o.k = .map ∧ keyOk d k, okV commaOk z false, []⟩
        | none => .bad
      | none => .bad
    | _, _ => .bad
  | _, _ => .bad
theorem okV_re {commaOk t : Bool} {p : PV} {v : Value} (h : Re C p v) : Re C (okV commaOk p t) (if commaOk then .tuple #[v, .bool t] else v) := by
  unfold okV
  cases commaOk with
  | false => exact h
  | true => exact Re.tup (cs := [_, _]) (vs := [v, .bool t]) rfl (fun i i1 i2 => by
      match i, i1 with
      | 0, _ => exact h
      | 1, _ => exact .val _
      | i + 2, i1 => simp at i1; omega)
theorem lookup_ok {t : TypeId} {x y : Operand} {commaOk : Bool} (hr : Rel E C st a) (ho : o.op = .lookup t x y commaOk) (h : (aLookup P t (evP st.regs x) (evP st.regs y) commaOk (lookO st.obs)).ok) :
    StepOk P E C st a o new (aLookup P t (evP st.regs x) (evP st.regs y) commaOk (lookO st.obs)).v (aLookup P t (evP st.regs x) (evP st.regs y) commaOk (lookO st.obs)).u := by
  have hx := hr.eval x
  have hy := hr.eval y
  generalize evP st.regs x = p at *
  generalize evP st.regs y = q at *
  generalize hxa : a.eval x = xv at *
  generalize hya : a.eval y = yv at *
  unfold aLookup at *
  split at h
  · rename_i kt et nm hu
    split at h
    · rename_i d ob hd hob
      split at h
      · rename_i i v hf
        obtain ⟨hk, hko⟩ := h
        obtain ⟨b, es, cl, g1, g2, g3, g4, g5, g6⟩ := map_at hr hob hk hx
        rcases findP_now hy ob.rows es.toList 0 g3 (by rw [Array.toArray_toList]; exact g5) _ hf with ⟨e, _⟩ | ⟨j, p, w, key, e, k0, k1, k2, k3, k4, k5⟩
        · cases e
        · cases e
          simp only [hd, hob, hf]
          refine .of_look (fun c => by rw [ho]; intro e; cases e) (x := if commaOk then .tuple #[w, .bool true] else w) ?_ (okV_re k1) hr
          have hfk := Go.MapKept.run_findKey (P := P) (w := C.W) hd k2
          simp [execOp, ho, hxa, hya, Instr.lookup, run_underlying hu, g2, getObj_run g4, keyOk_run hd hko hy, hfk]
      · rename_i hf
        split at h
        · rename_i z hz
          obtain ⟨hk, hko⟩ := h
          obtain ⟨b, es, cl, g1, g2, g3, g4, g5, g6⟩ := map_at hr hob hk hx
          rcases findP_now hy ob.rows es.toList 0 g3 (by rw [Array.toArray_toList]; exact g5) _ hf with ⟨_, k2⟩ | ⟨j, p, w, key, e, _⟩
          · simp only [hd, hob, hf, hz]
            unfold tzeroV at hz
            obtain ⟨zv, h1, h2⟩ := Option.map_eq_some_iff.1 hz
            obtain ⟨i, hi, hzv⟩ := Option.bind_eq_some_iff.1 h1
            subst h2
            refine .of_look (fun c => by rw [ho]; intro e; cases e) (x := if commaOk then .tuple #[zv, .bool false] else zv) ?_ (okV_re (Re.cvt zv)) hr
            have hfk := Go.MapKept.run_findKey (P := P) (w := C.W) hd k2
            simp [execOp, ho, hxa, hya, Instr.lookup, run_underlying hu, g2, getObj_run g4, keyOk_run hd hko hy, hfk, zeroValue, typeInfo, hi, hzv]
          · cases e
        · exact h.elim
      · exact h.elim
    · exact h.elim
  · exact h.elim
/-! ### What is put there -/
def aMapUpdate (P : Program) (t : TypeId) (p k v : PV) (ob : Nat → Option Ob) : R := match P.underlying t, p with
  | some (.map kt et), .mp nm => match P.underlying kt, ob nm with
    | some d, some o => match findP d k o.rows 0 with
      | some (some (i, _)) => ⟨o.k = .map ∧ keyOk d k, .un, [(nm, some ⟨o.T, o.sz, o.rows.set i [k, v], .map⟩)]⟩
      | some none => ⟨o.k = .map ∧ keyOk d k, .un, [(nm, some ⟨o.T, o.sz, o.rows ++ [[k, v]], .map⟩)]⟩
      | none => .bad
    | _, _ => .bad
  | _, _ => .bad
theorem setObj_run {W : World} {b : Nat} {es es' : Array MapEntry} {cl cl' : Nat} (h : W.heap[b]? = some (.map es cl)) : (setObj b (.map es' cl')).run P W = .ok () (W.putObj b (.map es' cl')) := by
  simp [setObj, Sem.run, h, World.putObj]
theorem flat_set : ∀ (rows : List (List PV)) (i : Nat) (k v : PV), (∀ r ∈ rows, r.length = 2) → (rows.set i [k, v]).flatten = (rows.flatten.set (2 * i) k).set (2 * i + 1) v
  | [], i, k, v, _ => by simp
  | r :: rows, i, k, v, h => by
    have h1 := h r List.mem_cons_self
    obtain ⟨a, b, rfl⟩ : ∃ a b, r = [a, b] := by
      match r, h1 with
      | [a, b], _ => exact ⟨a, b, rfl⟩
    cases i with
    | zero => simp
    | succ i =>
      rw [List.set_cons_succ, List.flatten_cons, flat_set rows i k v (fun r hr => h r (List.mem_cons_of_mem _ hr))]
      rw [show 2 * (i + 1) = 2 * i + 1 + 1 by omega]
      simp
theorem mapCells_set : ∀ (es : List MapEntry) (i : Nat) (e : MapEntry), mapCells (es.set i e).toArray = ((mapCells es.toArray).set (2 * i) e.key).set (2 * i + 1) e.val
  | [], i, e => by simp [mapCells]
  | x :: es, 0, e => by rw [List.set_cons_zero, mapCells_cons, mapCells_cons]; simp
  | x :: es, i + 1, e => by
    rw [List.set_cons_succ, mapCells_cons, mapCells_cons, mapCells_set es i e, show 2 * (i + 1) = 2 * i + 1 + 1 by omega]
    simp
theorem ReL.set {ps : List PV} {vs : List Value} (h : ReL C ps vs) {p : PV} {v : Value} (hp : Re C p v) (i : Nat) : ReL C (ps.set i p) (vs.set i v) :=
  ⟨by simpa using h.1, fun j h1 h2 => by
    rw [List.getElem_set, List.getElem_set]
    by_cases e : i = j
    · rw [if_pos e, if_pos e]; exact hp
    · rw [if_neg e, if_neg e]; exact h.2 j (by simpa using h1) (by simpa using h2)⟩
theorem mapUpdate_ok {t : TypeId} {x y z : Operand} (hr : Rel E C st a) (ho : o.op = .mapUpdate t x y z ∨ o.op = .insert t x y z) (h : (aMapUpdate P t (evP st.regs x) (evP st.regs y) (evP st.regs z) (lookO st.obs)).ok) :
    StepOk P E C st a o new (aMapUpdate P t (evP st.regs x) (evP st.regs y) (evP st.regs z) (lookO st.obs)).v (aMapUpdate P t (evP st.regs x) (evP st.regs y) (evP st.regs z) (lookO st.obs)).u := by
  have hx := hr.eval x
  have hy := hr.eval y
  have hz := hr.eval z
  generalize evP st.regs x = p at *
  generalize evP st.regs y = q at *
  generalize evP st.regs z = s at *
  generalize hxa : a.eval x = xv at *
  generalize hya : a.eval y = yv at *
  generalize hza : a.eval z = zv at *
  unfold aMapUpdate at *
  split at h
  · rename_i kt et nm hu
    split at h
    · rename_i d ob hd hob
      have fin : ∀ (rows' : List (List PV)) (es' : Array MapEntry) (b : Nat) (es : Array MapEntry) (cl cl' : Nat), C.ρ nm = some b → xv = .map (some b) → C.W.heap[b]? = some (.map es cl) → (∀ r ∈ rows', r.length = 2) → ReL C rows'.flatten (mapCells es') →
          (Instr.mapUpdate t xv yv zv).run P C.W = .ok () (C.W.putObj b (.map es' cl')) → StepOk P E C st a o new .un [(nm, some ⟨ob.T, ob.sz, rows', .map⟩)] := by
        intro rows' es' b es cl cl' g1 g2 g4 g3 g5 hrun
        obtain ⟨C', e1, e2, hle, hr'⟩ := hr.putO (o' := .map es' cl') (ob' := ⟨ob.T, ob.sz, rows', .map⟩) hob g1 g4 (fun _ _ _ e => by cases e) (fun C' hle k1 k2 k3 k4 => ⟨g3, b, es', cl', by rw [k1]; exact g1, by rw [k2]; exact k4, k3, g5.mono hle⟩)
        rcases ho with ho | ho
        · refine .of_skip (fun c => by rw [ho]; intro e; cases e) ?_ hr' hle (fun k _ => by rw [e2])
          simp [execOp, ho, hxa, hya, hza, hrun, e1]
        · refine .of_skip (fun c => by rw [ho]; intro e; cases e) ?_ hr' hle (fun k _ => by rw [e2])
          simp [execOp, ho, hxa, hya, hza, hrun, e1]
      split at h
      · rename_i i v hf
        obtain ⟨hk, hko⟩ := h
        obtain ⟨b, es, cl, g1, g2, g3, g4, g5, g6⟩ := map_at hr hob hk hx
        rcases findP_now hy ob.rows es.toList 0 g3 (by rw [Array.toArray_toList]; exact g5) _ hf with ⟨e, _⟩ | ⟨j, p, w, key, e, k0, k1, k2, k3, k4, k5⟩
        · cases e
        · simp only [Nat.zero_add, Option.some.injEq, Prod.mk.injEq] at e
          obtain ⟨rfl, rfl⟩ := e
          simp only [hd, hob, hf]
          have hlt : i < es.size := by rw [g6]; exact k0
          have hkey : es[i]? = some key := by rw [← Array.getElem?_toList]; exact k3
          refine fin (ob.rows.set i [q, s]) (es.toList.set i { key with key := yv, val := zv }).toArray b es cl cl g1 g2 g4 (fun r hr' => ?_) ?_ ?_
          · rcases List.mem_or_eq_of_mem_set hr' with h | h
            · exact g3 r h
            · rw [h]; rfl
          · rw [flat_set _ _ _ _ g3, mapCells_set, Array.toArray_toList]
            exact (g5.set hy _).set hz _
          · have hfk := Go.MapKept.run_findKey (P := P) (w := C.W) hd k2
            have hst : (Instr.keyThatStays yv yv).run P C.W = .ok yv C.W := by
              have : Instr.sameBits 10000 yv yv = true := by
                unfold keyOk at hko
                split at hko
                · cases hy; simp [Instr.sameBits, ba_beqD]
                · cases hy; simp [Instr.sameBits, ba_beqD]
                · exact hko.elim
              simp [Instr.keyThatStays, this]
            have hmod : es.modify i (fun e => { e with key := yv, val := zv }) = (es.toList.set i { key with key := yv, val := zv }).toArray := by
              apply Array.toList_inj.1
              rw [Array.toList_modify]
              apply List.ext_getElem?
              intro n
              rw [List.getElem?_modify, List.getElem?_set]
              by_cases e : i = n
              · subst e
                have hk' : es[i] = key := by simpa [hlt] using hkey
                simp [hlt, hk']
              · simp [e]
            simp only [Instr.mapUpdate, Sem.run_bind, run_underlying hu, Result.andThen_ok, g2, getObj_run g4, keyOk_run hd hko hy, hfk, Nat.zero_add, hkey, Option.map_some, Option.getD_some, k4, hst, setObj_run g4, hmod]
      · rename_i hf
        obtain ⟨hk, hko⟩ := h
        obtain ⟨b, es, cl, g1, g2, g3, g4, g5, g6⟩ := map_at hr hob hk hx
        rcases findP_now hy ob.rows es.toList 0 g3 (by rw [Array.toArray_toList]; exact g5) _ hf with ⟨_, k2⟩ | ⟨j, p, w, key, e, _⟩
        · simp only [hd, hob, hf]
          refine fin (ob.rows ++ [[q, s]]) (es.push { key := yv, val := zv, born := cl }) b es cl (cl + 1) g1 g2 g4 (fun r hr' => ?_) ?_ ?_
          · rcases List.mem_append.1 hr' with h | h
            · exact g3 r h
            · rw [List.mem_singleton.1 h]; rfl
          · rw [List.flatten_append]
            have : mapCells (es.push { key := yv, val := zv, born := cl }) = mapCells es ++ [yv, zv] := by simp [mapCells]
            rw [this]
            exact g5.append (by simpa using ReL.cons hy (ReL.cons hz (ReL.nil C)))
          · have hfk := Go.MapKept.run_findKey (P := P) (w := C.W) hd k2
            simp only [Instr.mapUpdate, Sem.run_bind, run_underlying hu, Result.andThen_ok, g2, getObj_run g4, keyOk_run hd hko hy, hfk, setObj_run g4]
        · cases e
      · exact h.elim
    · exact h.elim
  · exact h.elim
end
end Go.Proofs.Ytipolblhiljoiaa.Sy

namespace Go.Proofs.Ytipolblhiljoiaa.Sy
open Go Go.RowKit
set_option linter.unusedVariables false
set_option linter.unusedSimpArgs false

def aBuiltin (P : Program) (b : Builtin) (args : List PV) (ts : List TypeId) (ob : Nat → Option Ob) (new : Nat) (sc : R) : R :=
  match b, args, ts with
  | .len, [.mp nm], [t] => aLenM P t nm ob
  | .len, [x], [t] => aLen P t x
  | .append, [x, y], [t, t'] => if t = t' then aAppend P t x y ob new else aAppendS P t t' x y ob new
  | .min, [x, y], _ => aMin x y
  | .max, [x, y], _ => aMax x y
  | _, _, _ => sc
def act (P : Program) (o : Oper) (ev : Operand → PV) (ob : Nat → Option Ob) (new : Nat) : R :=
  match o.op with
  | .move x => ⟨True, ev x, []⟩
  | .assign x => ⟨True, ev x, []⟩
  | .pick c x y => aPick (ev c) (ev x) (ev y)
  | .extract x i => aExtract (ev x) i
  | .makeFunc fn first caps => aMakeFunc fn (first.toList.map ev) (caps.toList.map ev)
  | .nilCheck x => aNilCheck (ev x)
  | .box T x => aBox T (ev x) new
  | .alloc T => aAlloc P T new
  | .load T x => aLoad P T (ev x) ob
  | .store T x y => aStore P T (ev x) (ev y) ob
  | .fieldAddr S x f => aFieldAddr P S (ev x) f
  | .field T x f => aField P T (ev x) f
  | .indexAddr T x y => aIndexAddr P T (ev x) (ev y)
  | .index T x y => aIndex P T (ev x) (ev y)
  | .slice T x lo hi mx => aSlice P T (ev x) (lo.map ev) (hi.map ev) (mx.map ev)
  | .build t parts => aBuild P t (partsP ev parts)
  | .buildSlice t len parts => aBuildSlice P t len (partsP ev parts) new
  | .makeSlice t x y => aMakeSlice P t (ev x) (ev y) new
  | .convert s d x => aConv P s d (ev x) (aConvert P s d (ev x) ob (scal P ev o))
  | .binOp op t x y _ => aEqB P op t (ev x) (ev y) <| aEqA P op t (ev x) (ev y) (aBin P op t x y (ev x) (ev y) (scal P ev o))
  | .unOp op _ x => aUn op (ev x) (scal P ev o)
  | .makeMap _ x => aMakeMap (x.map ev) new
  | .lookup t x y c => aLookup P t (ev x) (ev y) c ob
  | .mapUpdate t x y z => aMapUpdate P t (ev x) (ev y) (ev z) ob
  | .insert t x y z => aMapUpdate P t (ev x) (ev y) (ev z) ob
  | .call ⟨.builtin b, args, ts⟩ => aBuiltin P b (args.toList.map ev) ts.toList ob new (scal P ev o)
  | _ => scal P ev o
theorem arr1 {α : Type} {a : Array α} {x : α} (h : a.toList = [x]) : a = #[x] := by cases a; simp_all
theorem arr2 {α : Type} {a : Array α} {x y : α} (h : a.toList = [x, y]) : a = #[x, y] := by cases a; simp_all
theorem act_ok {P : Program} {E : En} {C : Cx} {st : St} {a : Act} {o : Oper} {new : Nat} (hr : Rel E C st a) (hn : C.ρ new = none) (hno : lookO st.obs new = none)
    (h : (act P o (evP st.regs) (lookO st.obs) new).ok) : StepOk P E C st a o new (act P o (evP st.regs) (lookO st.obs) new).v (act P o (evP st.regs) (lookO st.obs) new).u := by
  unfold act at *
  cases ho : o.op
  case call c =>
    obtain ⟨callee, args, ts⟩ := c
    cases callee with
    | value f => simp only [ho] at h ⊢; exact scal_ok hr h
    | invoke r m => simp only [ho] at h ⊢; exact scal_ok hr h
    | builtin b =>
      simp only [ho] at h ⊢
      unfold aBuiltin at *
      split at h
      · rename_i nm t hx ht
        obtain ⟨y, ys, h1, h2, h3⟩ := List.map_eq_cons_iff.1 hx
        have h4 : ys = [] := List.map_eq_nil_iff.1 h3
        subst h4
        rw [arr1 h1] at ho
        exact lenM_ok hr ho (by rw [arr1 ht]; rfl) h2 h
      · rename_i x t hne hx ht
        obtain ⟨y, ys, h1, h2, h3⟩ := List.map_eq_cons_iff.1 hx
        have h4 : ys = [] := List.map_eq_nil_iff.1 h3
        subst h4
        subst h2
        rw [arr1 h1] at ho
        exact len_ok hr ho (by rw [arr1 ht]; rfl) h
      · rename_i x y t t' hx ht
        obtain ⟨x', xs, h1, h2, h3⟩ := List.map_eq_cons_iff.1 hx
        obtain ⟨y', ys, h4, h5, h6⟩ := List.map_eq_cons_iff.1 h3
        have h7 : ys = [] := List.map_eq_nil_iff.1 h6
        subst h7; subst h2; subst h5; subst h4
        split at h
        · rename_i he
          subst he
          rw [if_pos rfl]
          rw [arr2 h1, arr2 ht] at ho
          exact append_ok hr ho hn hno h
        · rename_i he
          rw [if_neg he]
          rw [arr2 h1, arr2 ht] at ho
          exact appendS_ok hr ho hn hno h
      · rename_i x y hx
        obtain ⟨x', xs, h1, h2, h3⟩ := List.map_eq_cons_iff.1 hx
        obtain ⟨y', ys, h4, h5, h6⟩ := List.map_eq_cons_iff.1 h3
        have h7 : ys = [] := List.map_eq_nil_iff.1 h6
        subst h7; subst h2; subst h5; subst h4
        rw [arr2 h1] at ho
        exact min_ok hr ho h
      · rename_i x y hx
        obtain ⟨x', xs, h1, h2, h3⟩ := List.map_eq_cons_iff.1 hx
        obtain ⟨y', ys, h4, h5, h6⟩ := List.map_eq_cons_iff.1 h3
        have h7 : ys = [] := List.map_eq_nil_iff.1 h6
        subst h7; subst h2; subst h5; subst h4
        rw [arr2 h1] at ho
        exact max_ok hr ho h
      · exact scal_ok hr h
  all_goals simp only [ho] at h ⊢
  case move x => exact move_ok hr (.inl ho)
  case assign x => exact move_ok hr (.inr ho)
  case pick => exact pick_ok hr ho h
  case extract => exact extract_ok hr ho h
  case makeFunc => exact makeFunc_ok hr ho h
  case nilCheck => exact nilCheck_ok hr ho h
  case box => exact box_ok hr ho hn hno h
  case alloc => exact alloc_ok hr ho hn hno h
  case load => exact load_ok hr ho h
  case store => exact store_ok hr ho h
  case fieldAddr => exact fieldAddr_ok hr ho h
  case field => exact field_ok hr ho h
  case indexAddr => exact indexAddr_ok hr ho h
  case index => exact index_ok hr ho h
  case slice => exact slice_ok hr ho h
  case build => exact build_ok hr ho h
  case buildSlice => exact buildSlice_ok hr ho hn hno h
  case makeSlice => exact makeSlice_ok hr ho hn hno h
  case convert => exact conv_ok hr ho (fun h => convert_ok hr ho h) h
  case binOp => exact eqB_ok hr ho (fun h => eqA_ok hr ho (fun h => bin_ok hr ho h) h) h
  case unOp => exact un_ok hr ho h
  case makeMap => exact makeMap_ok hr ho hn hno h
  case lookup => exact lookup_ok hr ho h
  case mapUpdate => exact mapUpdate_ok hr (.inl ho) h
  case insert => exact mapUpdate_ok hr (.inr ho) h
  all_goals exact scal_ok hr h
end Go.Proofs.Ytipolblhiljoiaa.Sy
