/- Layer 13: what requests do, as plain data. -/
import Derived.Test.YtbigcojlpcchiaaGreatC13a
namespace Go.Proofs.YtbigcojlpcchiaaGreat.Sy
open Go Go.RowKit
set_option linter.unusedVariables false
set_option linter.unusedSimpArgs false
set_option maxRecDepth 10000
set_option maxHeartbeats 4000000
open Bk (Sto rowsB stoP putS getS delS RightI inB)
def getsV (s : Sto) (ls : List ByteArray) : List ByteArray := ls.map fun l => (getS s l).1
def putsV : Sto → List ByteArray → List ByteArray → Sto
  | s, l :: ls, c :: cs => putsV (putS s l c).1 ls cs
  | s, _, _ => s
def delsV : Sto → List ByteArray → Int → Sto × Int
  | s, [], n => (s, n)
  | s, l :: ls, n => delsV (delS s l).1 ls (if (delS s l).2.1 then n + 1 else n)
/-- What stands there already: some label has another cell; else how many have none. -/
def goesV (s : Sto) : List ByteArray → List ByteArray → Int → Option Int
  | l :: ls, c :: cs, n => if (getS s l).1 = ⟨#[]⟩ then goesV s ls cs (n + 1) else if (getS s l).1 = c then goesV s ls cs n else none
  | _, _, n => some n
def putV (s : Sto) (lim : Int) (ls cs : List ByteArray) : Sto × Int :=
  match goesV s ls cs 0 with
  | none => (s, 2)
  | some m => if lim < s.many + m then (s, 1) else (putsV s ls cs, 0)
structure RspW where
  k : Int
  st : Int
  cs : List ByteArray
  m : Int
  r : Int
deriving DecidableEq
abbrev RspW.P (a : RspW) : PV := resP a.k a.st a.cs a.m a.r
def doV (s : Sto) (lim k : Int) (ls cs : List ByteArray) : Sto × RspW :=
  if rightQ k ls cs = true ∧ rightV s lim = true then
    if k = 1 then ((putV s lim ls cs).1, ⟨1, (putV s lim ls cs).2, [], 0, 0⟩)
    else if k = 2 then (s, ⟨2, 0, getsV s ls, 0, 0⟩)
    else if k = 3 then ((delsV s ls 0).1, ⟨3, 0, [], (delsV s ls 0).2, 0⟩)
    else (s, ⟨4, 0, [], s.many, lim - s.many⟩)
  else (s, ⟨0, 0, [], 0, 0⟩)
theorem rightV_iff {s : Sto} {lim : Int} : rightV s lim = true ↔ RightI s ∧ 0 ≤ lim ∧ lim ≤ 2000 ∧ s.many ≤ lim := by
  unfold rightV
  simp only [Bool.and_eq_true, decide_eq_true_eq, Bk.right_iff]
theorem wideV {s : Sto} (h : RightI s) (hm : s.many ≤ 2000) : Bk.sizeB (Bk.wideN s) = true := by
  have hs := (Bk.sizeB_iff _).1 h.size
  rw [Bk.sizeB_iff]
  unfold Bk.wideN
  split <;> omega
theorem rightI_small {s : Sto} (h : RightI s) : s.bs.length < 1000000 := by have := Bk.right_small h; omega
/-- Put, in a store of few. -/
theorem put_v {s : Sto} (h : RightI s) (hm : s.many ≤ 2000) {l c : ByteArray} (hl : l.size = 16) (hc : c.size = 40) : (putS s l c).2 = 0 ∧ RightI (putS s l c).1 ∧
    (putS s l c).1.many = (if (getS s l).2 then s.many else s.many + 1) ∧ ∀ l' c', inB (putS s l c).1.bs l' c' ↔ (l' = l ∧ c' = c) ∨ (l' ≠ l ∧ inB s.bs l' c') := by
  rcases Bk.in_dec s l with ⟨c0, h0⟩ | h0
  · obtain ⟨k, _, _, _, _, he, hr, hi⟩ := Bk.put_over (c := c) h hl hc h0
    rw [Bk.get_in h h0]
    exact ⟨by rw [he], hr, by rw [he]; rfl, hi⟩
  · obtain ⟨he, hr, hn, hi⟩ := Bk.put_new (c := c) h hl hc h0 (.inr (wideV h (by omega)))
    rw [Bk.get_not h h0]
    exact ⟨by rw [he], hr, hn, hi⟩
end Go.Proofs.YtbigcojlpcchiaaGreat.Sy
