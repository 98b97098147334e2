/- Layer 12: a bucket as a law's parameter. -/
import Derived.Test.YthijmjglpcljcaaSyPar
import Derived.Test.YthijmjglpcljcaaB12Def
namespace Go.Proofs.Ythijmjglpcljcaa.Sy
open Go Go.RowKit
theorem op_bkt : OpensP Try.prog 25 (fun b : Bkt => [.val (.int .i64 b.st), .val (.string b.lab), .val (.string b.cell)]) (fun b => isI64 b.st) :=
  OpensP.map (op_struct Try.underlying25 (by kernel_rfl)
    (OpensF.cons (sz := 1) rfl (by kernel_rfl) (fun _ _ => rfl) (op_i64 Try.underlying3) (OpensF.cons (sz := 1) rfl (by kernel_rfl) (fun _ _ => rfl) (op_string Try.underlying9) (OpensF.cons (sz := 1) rfl (by kernel_rfl) (fun _ _ => rfl) (op_string Try.underlying9) (OpensF.nil _ _)))))
    fun p h => ⟨⟨p.1, p.2.1, p.2.2.1⟩, h.1, rfl⟩
end Go.Proofs.Ythijmjglpcljcaa.Sy
