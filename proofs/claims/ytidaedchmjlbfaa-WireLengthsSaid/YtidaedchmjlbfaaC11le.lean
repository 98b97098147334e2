/- Layer 11: the law WireLengths. -/
import Derived.Test.YtidaedchmjlbfaaC11aw
import Derived.Test.YtidaedchmjlbfaaC11v
namespace Go.Proofs.Ytidaedchmjlbfaa.Sy
open Go Go.RowKit
set_option linter.unusedVariables false
set_option linter.unusedSimpArgs false
set_option maxRecDepth 10000
set_option maxHeartbeats 16000000
theorem encQ_fst {k : Int} {ls cs : List ByteArray} (h : rightQ k ls cs = true) : (encQ k ls cs).2 = 0 := by rw [encQ_ok h]
theorem lengths_call {one two : Int} {a b : List Int} (h1 : isI64 one) (h2 : isI64 two) (ha : a.length ≤ maxLen) (hb : b.length ≤ maxLen) (ha' : ∀ n ∈ a, isI64 n) (hb' : ∀ n ∈ b, isI64 n) :
    CallOk Try.prog 6 [.val (.int .i64 one), .val (.int .i64 two), .rd 1 (rowsJ a), .rd 1 (rowsJ b)] [] (.val (.bool true)) [] := by
  refine .of_exec Try.func6 rfl (enters_6) rfl rfl (Nat.le_of_ble_eq_true rfl) (fun n _ => rfl) ?_
  have r1 := req_right one a
  have r2 := req_right two b
  have q1 := request_call h1 ha ha'
  have q2 := request_call h2 hb hb'
  obtain ⟨f1, f2, _, _, _, f6, f7, _⟩ := right_facts r1
  obtain ⟨g1, g2, _, _, _, g6, g7, _⟩ := right_facts r2
  have hz := encQ_size r1
  have he1 := encQ_fst r1
  have he2 := encQ_fst r2
  have hinj := enc_inj r1 r2
  generalize reqK one = k at *
  generalize reqL one a = ls at *
  generalize reqC one a = cs at *
  generalize reqK two = k' at *
  generalize reqL two b = ls' at *
  generalize reqC two b = cs' at *
  have c1 := Encode_call (k := k) (ls := ls) (cs := cs) ⟨by omega, by omega⟩ (by omega) (by omega)
  have c2 := Encode_call (k := k') (ls := ls') (cs := cs') ⟨by omega, by omega⟩ (by omega) (by omega)
  rw [he1] at c1
  rw [he2] at c2
  have hsame : decide ((encQ k ls cs).1 = (encQ k' ls' cs').1) = decide (k = k' ∧ ls = ls' ∧ cs = cs') := by
    rw [decide_eq_decide]
    exact ⟨hinj, fun ⟨e1, e2, e3⟩ => by rw [e1, e2, e3]⟩
  have cs1 := same_call (k := k) (k' := k') (ls := ls) (ls' := ls') (cs := cs) (cs' := cs') (by omega) (by omega) (by omega) (by omega)
  rw [← hsame] at cs1
  generalize (encQ k ls cs).1 = s at *
  generalize (encQ k' ls' cs').1 = t at *
  have w1 : IntKind.i64.wrap (20 * (ls.length : Int)) = 20 * ls.length := w64 (by omega) (by omega)
  have w2 : IntKind.i64.wrap (44 * (cs.length : Int)) = 44 * cs.length := w64 (by omega) (by omega)
  have w3 : IntKind.i64.wrap (12 + 20 * (ls.length : Int)) = 12 + 20 * ls.length := w64 (by omega) (by omega)
  have w4 : IntKind.i64.wrap (12 + 20 * (ls.length : Int) + 44 * cs.length) = 12 + 20 * ls.length + 44 * cs.length := w64 (by omega) (by omega)
  have hz' : (s.size : Int) = 12 + 20 * ls.length + 44 * cs.length := by omega
  simp
  refine .plain awake11_call (by simp) (by simp) ?_
  simp
  refine .plain q1 (by simp) (by simp) ?_
  simp
  refine .plain q2 (by simp) (by simp) ?_
  simp
  refine .plain c1 (by simp) (by simp) ?_
  simp
  refine .plain c2 (by simp) (by simp) ?_
  simp [w1, w2, w3, w4, hz']
  refine .plain cs1 (by simp) (by simp) ?_
  simp
  exact .plain (by simp) (by simp)
end Go.Proofs.Ytidaedchmjlbfaa.Sy
