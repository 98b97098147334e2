/- Layer 11: the law's responses. -/
import Derived.Test.YtbigcojlpcchiaaGreatC11u
import Derived.Test.YtbigcojlpcchiaaGreatC11m
namespace Go.Proofs.YtbigcojlpcchiaaGreat.Sy
open Go Go.RowKit
set_option linter.unusedVariables false
set_option linter.unusedSimpArgs false
set_option maxRecDepth 10000
set_option maxHeartbeats 4000000
def cellR (n : Int) : ByteArray := if 0 < pickI n 3 then cellJ n else ⟨#[]⟩
def rspS (k n : Int) : Int := if k = 1 then pickI n 3 else 0
def rspC (k : Int) (raw : List Int) : List ByteArray := if k = 2 then (raw.map cellR).take 12 else []
def rspM (k n : Int) : Int := if k = 3 ∨ k = 4 then pickI n 2147483648 else 0
def rspR (k n : Int) : Int := if k = 4 then pickI n 2147483648 else 0
abbrev arr3 (a b c : Int) : PV := .agg [.val (.int .i64 a), .val (.int .i64 b), .val (.int .i64 c)]
abbrev rspO (k st : Int) (q : PV) (m r : Int) : Ob := ⟨45, 5, [[.val (.int .i64 k), .val (.int .i64 st), q, .val (.int .i64 m), .val (.int .i64 r)]], .cells⟩
abbrev nilP : PV := .val (.slice none 0 0)
def rsp_inv (a b c : Int) (raw : List Int) (Cs : List ByteArray) (m : Nat) (st : St) : Prop := ∃ i : Nat, m = raw.length - i ∧ i ≤ raw.length ∧ i ≤ 12 ∧
  ((i = 0 ∧ st = ⟨67, [(8, .val (.int .i64 i)), (7, .ref 104 5 0 0), (6, .ref 72 5 0 0), (2, .rd 1 (rowsJ raw))], [(104, rspO 2 0 nilP 0 0), (72, rspO 0 0 nilP 0 0)], 112⟩) ∨
   (0 < i ∧ st = ⟨67, [(8, .val (.int .i64 i)), (7, .ref 104 5 0 0), (6, .ref 72 5 0 0), (2, .rd 1 (rowsJ raw))], [(104, rspO 2 0 (.sl 112 1 0 i) 0 0), (112, strO (Cs.take i)), (72, rspO 0 0 nilP 0 0)], 120⟩))
end Go.Proofs.YtbigcojlpcchiaaGreat.Sy
