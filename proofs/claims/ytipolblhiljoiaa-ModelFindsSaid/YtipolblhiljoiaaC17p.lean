/- Layer 17: documents, in plain words: what an operation does. -/
import Derived.Test.YtipolblhiljoiaaC16p
import Derived.Test.YtipolblhiljoiaaSyInts
namespace Go.Proofs.Ytipolblhiljoiaa.Sy
open Go Go.RowKit
set_option linter.unusedVariables false
set_option linter.unusedSimpArgs false
/-- Neighbours are in order. -/
def adjB {α : Type} (lt : α → α → Bool) : List α → Bool
  | a :: b :: r => lt a b && adjB lt (b :: r)
  | _ => true
def ltW (a b : ByteArray) : Bool := Op.bytesLess a.toList b.toList
def ltI (a b : Int) : Bool := decide (a < b)
theorem ltW_bl (a b : ByteArray) : ltW a b = decide (bl a < bl b) := bytesLess_bl a b
theorem adjB_take {α : Type} {lt : α → α → Bool} : ∀ {l : List α} {i : Nat} (h : i + 1 < l.length), adjB lt (l.take (i + 2)) = (adjB lt (l.take (i + 1)) && lt (l[i]'(by omega)) l[i + 1])
  | [], i, h => by simp at h
  | [a], i, h => by simp at h
  | a :: b :: r, 0, h => by simp [adjB]
  | a :: b :: r, i + 1, h => by
    have := adjB_take (lt := lt) (l := b :: r) (i := i) (by simpa using h)
    simp only [List.take_succ_cons, List.getElem_cons_succ, adjB] at this ⊢
    rw [this, Bool.and_assoc]
theorem adjB_one {α : Type} {lt : α → α → Bool} (l : List α) : adjB lt (l.take 1) = true := by
  cases l <;> simp [adjB]
theorem adjB_pre {α : Type} {lt : α → α → Bool} {l : List α} : ∀ (i : Nat), adjB lt (l.take i) = false → adjB lt l = false := by
  intro i
  induction l generalizing i with
  | nil => simp
  | cons a r ih =>
    cases i with
    | zero => simp [adjB]
    | succ i =>
      cases r with
      | nil => simp [adjB]
      | cons b r =>
        cases i with
        | zero => simp [adjB]
        | succ i =>
          intro h
          rw [List.take_succ_cons, List.take_succ_cons] at h
          simp only [adjB, Bool.and_eq_false_iff] at h ⊢
          rcases h with h | h
          · exact .inl h
          · exact .inr (ih (i + 1) (by rw [List.take_succ_cons]; exact h))
theorem adjB_iff {α : Type} {lt : α → α → Bool} (htr : ∀ a b c, lt a b = true → lt b c = true → lt a c = true) : ∀ l : List α, adjB lt l = true ↔ l.Pairwise fun a b => lt a b = true
  | [] => by simp [adjB]
  | [a] => by simp [adjB]
  | a :: b :: r => by
    rw [adjB, Bool.and_eq_true, adjB_iff htr (b :: r)]
    constructor
    · rintro ⟨h1, h2⟩
      refine List.pairwise_cons.2 ⟨fun c hc => ?_, h2⟩
      rcases List.mem_cons.1 hc with rfl | hc
      · exact h1
      · exact htr _ _ _ h1 ((List.pairwise_cons.1 h2).1 c hc)
    · intro h
      obtain ⟨h1, h2⟩ := List.pairwise_cons.1 h
      exact ⟨h1 b List.mem_cons_self, h2⟩
theorem ltI_tr (a b c : Int) (h1 : ltI a b = true) (h2 : ltI b c = true) : ltI a c = true := by simp only [ltI, decide_eq_true_eq] at *; omega
theorem ltW_tr (a b c : ByteArray) (h1 : ltW a b = true) (h2 : ltW b c = true) : ltW a c = true := by
  rw [ltW_bl, decide_eq_true_eq] at *; exact List.lt_trans h1 h2
theorem adjW_iff (l : List ByteArray) : adjB ltW l = true ↔ Rising l := by
  rw [adjB_iff ltW_tr, Rising, List.pairwise_map]
  constructor <;> intro h <;> refine h.imp ?_ <;> intro a b hab
  · rw [ltW_bl] at hab; simpa using hab
  · rw [ltW_bl]; simpa using hab
theorem adjI_iff (l : List Int) : adjB ltI l = true ↔ l.Pairwise (· < ·) := by
  rw [adjB_iff ltI_tr]
  constructor <;> intro h <;> refine h.imp ?_ <;> intro a b hab
  · simpa [ltI] using hab
  · simpa [ltI] using hab

structure DocW where
  id : Int
  ws : List ByteArray
instance docDec : DecidableEq DocW := fun a b => decidable_of_iff (a.id = b.id ∧ a.ws = b.ws) ⟨fun h => by cases a; cases b; simp at h; simp [h], fun h => by rw [h]; exact ⟨rfl, rfl⟩⟩
abbrev docR (d : DocW) : List PV := [.val (.int .i64 d.id), .rd 1 (strs d.ws)]
instance docR_nice : NiceRow docR 2 where
  len := fun _ => rfl
  one := fun x c hc => by simp only [docR, List.mem_cons, List.not_mem_nil, or_false] at hc; rcases hc with rfl | rfl <;> trivial
  nf := fun x c hc => by simp only [docR, List.mem_cons, List.not_mem_nil, or_false] at hc; rcases hc with rfl | rfl <;> trivial
  rn := fun π x => rfl
  low := fun obs B x => rfl
abbrev rowsD (l : List DocW) : List (List PV) := rowsN docR l
@[simp] theorem rowsD_snoc (l : List DocW) (id : Int) (ws : List ByteArray) : rowsN docR l ++ [[.val (.int .i64 id), .rd 1 (strs ws)]] = rowsN docR (l ++ [⟨id, ws⟩]) := rowsN_snoc l ⟨id, ws⟩
def docOk (d : DocW) : Bool := decide (0 ≤ d.id) && decide (d.id ≤ 1073741824) && decide (d.ws.length ≤ 12) && adjB ltW d.ws && d.ws.all mayOf
def rightD (l : List DocW) : Bool := l.all docOk && decide (l.length ≤ 40) && adjB ltI (l.map (·.id))
def hasD (l : List DocW) (id : Int) : Bool := l.any fun d => decide (d.id = id)
def posD (l : List DocW) (id : Int) : Nat := (l.takeWhile fun d => decide (d.id < id)).length
def insD (l : List DocW) (d : DocW) : List DocW := l.take (posD l d.id) ++ [d] ++ l.drop (posD l d.id)
def setV (s : ByteArray) : List ByteArray × Int := if 2000 < s.size then ([], 2) else if 12 < (setOf s).length then ([], 2) else (setOf s, 0)
def inW (ws : List ByteArray) (w : ByteArray) : Bool := decide (w ∈ ws)
def hasAll (all : List ByteArray) (d : DocW) : Bool := all.all fun w => inW d.ws w
def allM (l : List DocW) (all : List ByteArray) : List Int := (l.filter (hasAll all)).map (·.id)
def delD (l : List DocW) (id : Int) : List DocW := l.filter fun d => !decide (d.id = id)
def repD (l : List DocW) (id : Int) (ws : List ByteArray) : List DocW := l.map fun d => if d.id = id then ⟨d.id, ws⟩ else d
def goesM (l : List DocW) (k id : Int) : Bool := rightD l && decide (1 ≤ k) && decide (k ≤ 6) && (decide (3 < k) || decide (0 ≤ id) && decide (id ≤ 1073741824))
/-- What an operation does to documents that may be, finds, and its error. -/
def doM (l : List DocW) (k id : Int) (s : ByteArray) : List DocW × List Int × Int :=
  if goesM l k id = true then
    if k = 6 then (l, [], 0)
    else if k = 2 then if hasD l id = true then (delD l id, [], 0) else (l, [], 22)
    else if (setV s).2 ≠ 0 then (l, [], (setV s).2)
    else if k = 1 then if hasD l id = true then (l, [], 21) else if l.length = 40 then (l, [], 20) else (insD l ⟨id, (setV s).1⟩, [], 0)
    else if k = 3 then if hasD l id = true then (repD l id (setV s).1, [], 0) else (l, [], 22)
    else if k = 4 then if (setV s).1 = [] then (l, [], 1) else (l, allM l (setV s).1, 0)
    else if (setV s).1.length = 1 then (l, [], 0) else (l, [], 1)
  else (l, [], 1)
theorem setV_size (s : ByteArray) : (setV s).1.length ≤ 12 := by
  unfold setV
  split
  · simp
  · split <;> simp; omega
end Go.Proofs.Ytipolblhiljoiaa.Sy
