/- Layer 11: requests and responses as a law's parameters. -/
import Derived.Test.YtbigcojlpcchiaaGreatSyPar
import Derived.Test.YtbigcojlpcchiaaGreatSyTab
namespace Go.Proofs.YtbigcojlpcchiaaGreat.Sy
open Go Go.RowKit
set_option linter.unusedVariables false
set_option linter.unusedSimpArgs false
set_option maxRecDepth 100000
theorem op_strs {P : Program} {t e : TypeId} (ht : P.underlying t = some (.slice e)) (hs : P.cellsOf e = 1) (he : P.underlying e = some .string) : OpensP P t (fun l : List ByteArray => [.rd 1 (strs l)]) (fun l => l.length ≤ maxLen ∧ ∀ x ∈ l, x.size ≤ maxLen) :=
  op_slice (sz := 1) (pv := fun s => [.val (.string s)]) ht hs (by omega) (fun a => by simp) (op_string he)
structure ReqV where
  k : Int
  ls : List ByteArray
  cs : List ByteArray
def ReqV.ok (q : ReqV) : Prop := isI64 q.k ∧ (q.ls.length ≤ maxLen ∧ ∀ x ∈ q.ls, x.size ≤ maxLen) ∧ (q.cs.length ≤ maxLen ∧ ∀ x ∈ q.cs, x.size ≤ maxLen)
theorem op_req : OpensP Tryz.prog 26 (fun q : ReqV => [.val (.int .i64 q.k), .rd 1 (strs q.ls), .rd 1 (strs q.cs)]) ReqV.ok :=
  OpensP.map (op_struct (P := Tryz.prog) Tryz.underlying26 (by kernel_rfl)
    (OpensF.cons (sz := 1) rfl (by kernel_rfl) (fun _ _ => rfl) (op_i64 Tryz.underlying3)
      (OpensF.cons (sz := 1) rfl (by kernel_rfl) (fun _ _ => rfl) (op_strs Tryz.underlying24 (by kernel_rfl) Tryz.underlying9)
        (OpensF.cons (sz := 1) rfl (by kernel_rfl) (fun _ _ => rfl) (op_strs Tryz.underlying24 (by kernel_rfl) Tryz.underlying9) (OpensF.nil _ _)))))
    fun p hp => ⟨⟨p.1, p.2.1, p.2.2.1⟩, ⟨hp.1, hp.2.1, hp.2.2.1⟩, rfl⟩
structure RspV where
  k : Int
  st : Int
  cs : List ByteArray
  m : Int
  r : Int
def RspV.ok (a : RspV) : Prop := isI64 a.k ∧ isI64 a.st ∧ (a.cs.length ≤ maxLen ∧ ∀ x ∈ a.cs, x.size ≤ maxLen) ∧ isI64 a.m ∧ isI64 a.r
theorem op_rsp : OpensP Tryz.prog 45 (fun a : RspV => [.val (.int .i64 a.k), .val (.int .i64 a.st), .rd 1 (strs a.cs), .val (.int .i64 a.m), .val (.int .i64 a.r)]) RspV.ok :=
  OpensP.map (op_struct (P := Tryz.prog) Tryz.underlying45 (by kernel_rfl)
    (OpensF.cons (sz := 1) rfl (by kernel_rfl) (fun _ _ => rfl) (op_i64 Tryz.underlying3)
     (OpensF.cons (sz := 1) rfl (by kernel_rfl) (fun _ _ => rfl) (op_i64 Tryz.underlying3)
      (OpensF.cons (sz := 1) rfl (by kernel_rfl) (fun _ _ => rfl) (op_strs Tryz.underlying24 (by kernel_rfl) Tryz.underlying9)
       (OpensF.cons (sz := 1) rfl (by kernel_rfl) (fun _ _ => rfl) (op_i64 Tryz.underlying3)
        (OpensF.cons (sz := 1) rfl (by kernel_rfl) (fun _ _ => rfl) (op_i64 Tryz.underlying3) (OpensF.nil _ _)))))))
    fun p hp => ⟨⟨p.1, p.2.1, p.2.2.1, p.2.2.2.1, p.2.2.2.2.1⟩, ⟨hp.1, hp.2.1, hp.2.2.1, hp.2.2.2.1, hp.2.2.2.2.1⟩, rfl⟩
end Go.Proofs.YtbigcojlpcchiaaGreat.Sy
