/- Layer 17: what an operation is picked from, as a law's parameter. -/
import Derived.Test.YtipolblhiljoiaaSyPar
import Derived.Test.YtipolblhiljoiaaC17y
namespace Go.Proofs.Ytipolblhiljoiaa.Sy
open Go Go.RowKit
set_option linter.unusedVariables false
set_option linter.unusedSimpArgs false
set_option maxRecDepth 100000
theorem op_raw : OpensP Try.prog 48 rawR RawIn :=
  OpensP.map (op_struct (P := Try.prog) Try.underlying48 (by kernel_rfl)
    (OpensF.cons (sz := 2) rfl (by kernel_rfl) (fun _ _ => rfl) (op_i64s2 Try.underlying46 (by kernel_rfl) (by kernel_rfl) Try.underlying3)
      (OpensF.cons (sz := 1) rfl (by kernel_rfl) (fun _ _ => rfl) (op_slice (sz := 1) Try.underlying23 (by kernel_rfl) (by omega) (fun a => by simp) (op_i64 Try.underlying3)) (OpensF.nil _ _))))
    fun p hp => ⟨⟨p.1.1, p.1.2, p.2.1⟩, ⟨hp.1.1, hp.1.2, hp.2.1.1, hp.2.1.2⟩, rfl⟩
theorem op_raws : OpensP Try.prog 22 (fun l : List RawW => [.rd 3 (rowsN rawR l)]) (fun l => l.length ≤ maxLen ∧ ∀ r ∈ l, RawIn r) :=
  op_slice (sz := 3) Try.underlying22 (by kernel_rfl) (by omega) (fun a => ⟨rfl, fun c hc => rawR_nice.one a c hc⟩) op_raw
end Go.Proofs.Ytipolblhiljoiaa.Sy
