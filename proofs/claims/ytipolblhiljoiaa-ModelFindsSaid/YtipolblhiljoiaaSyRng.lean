/- Sy: a range over a function that is known. -/
import Derived.Test.YtipolblhiljoiaaSyMore
namespace Go.Proofs.Ytipolblhiljoiaa.Sy
open Go Go.RowKit
theorem WPg.rangeV {P : Program} {J : Jd} (hJ : ∀ r, J.ok r → r = none) {g : Operand} {ps : Array Tmp} {asg body : Code} {st : St} {Q : Exit → St → Prop} {f : FuncId} {caps : List PV} {fn : Func} {c : Code} {n : Nat} (hg : evP st.regs g = .clo f caps)
    (hfn : P.funcs[f]? = some fn) (hb : fn.body = some c) (hent : entersB P f = true) (hn : fn.ntmps = n) (hlen : caps.length + 1 ≤ n) (hres : fn.results = #[])
    (h : ∀ tm fid dfs A B, (∀ J st Q, exec J P A st Q = exec J P asg st Q) → (∀ J st Q, exec J P B st Q = exec J P body st Q) → exec (.fn (st.new + 8)) P c ⟨n, parRegs 0 (.yld st.new :: caps), (st.new, ⟨0, 0, [], .loop ⟨st.n, st.regs, tm, fid, ps, A, B, dfs, .ready, none⟩⟩) :: st.obs, st.new + 8⟩ fun e s => match e with
      | .normal => rangeQ st.new st.n tm Q s
      | .ret => rangeQ st.new st.n tm Q s
      | _ => False) : WPg J P (.rangeFunc g ps asg body) st Q :=
  .rangeX hJ hg hfn hb hent hn hlen hres fun tm fid dfs => h tm fid dfs _ _ (fun _ _ _ => rfl) (fun _ _ _ => rfl)
end Go.Proofs.Ytipolblhiljoiaa.Sy
