/- '[]byte(s)' of a string that is no constant, as the printed walks meet it: as if a call had made the row (it is only read: its marks do not let it be appended to). -/
import Derived.Test.YtpmjnggkhjjiaaaAx0
import Derived.Lib.ConvBytes
namespace Go.Proofs.Ytpmjnggkhjjiaaa.A
open Go.RowKit Go.Proofs.YtpmjnggkhjjiaaaW.PrintWords Go.Proofs.YtpmjnggkhjjiaaaW.PrintLast Go.Proofs.YtpmjnggkhjjiaaaW.PrintMore

def ConvAt (P : Program) (src dst : TypeId) (x : Value) (W : World) (R : Ending → World → Prop) : Prop :=
  ∃ v w1, (convert src dst x).run P W = .ok v w1 ∧ R (.returned v) w1
theorem ConvAt.mono {P : Program} {src dst : TypeId} {x : Value} {W : World} {R R' : Ending → World → Prop} (h : ConvAt P src dst x W R) (k : ∀ e w', R e w' → R' e w') : ConvAt P src dst x W R' := by
  obtain ⟨v, w1, h1, h2⟩ := h
  exact ⟨v, w1, h1, k _ _ h2⟩
section
variable {P : Program} {ops : Array Oper} {rest : List Oper} {o : Oper} {a : Act} {Q : Exit → Act → World → Prop} {W : World}
theorem gate_conv (src dst : TypeId) {x : Operand} (_h : o.op = .convert src dst x) (h : wpList P ops Q (o :: rest) a W) : wpList P ops Q (o :: rest) a W := h
theorem conv_event {src dst : TypeId} {x : Operand} {s : ByteArray} (hop : o.op = .convert src dst x) (hgd : o.guard = none) (hx : a.eval x = .string s)
    (h : ConvAt P src dst (.string s) W (fun e w1 => ∃ v, e = .returned v ∧ wpList P ops Q rest (a.put o.dst v) w1)) : wpList P ops Q (o :: rest) a W := by
  obtain ⟨v0, w1, h1, v, e0, h2⟩ := h
  obtain rfl : v0 = v := Ending.returned.inj e0
  refine Kd.event_run (v := v0) (w1 := w1) hgd ?_ h2
  simp only [execOp, hop, hx]
  simp [h1, Result.andThen]
end

def conv_bytes.f (a0 : ByteArray) : Option (List Int) := if a0.size ≤ 9223372036854775807 then some (bytesOf a0) else none

theorem conv_bytes.calls (a0 : ByteArray) (r : List Int) (w : World) (h : conv_bytes.f a0 = some r) :
    ConvAt Try.prog 9 33 (.string a0) w fun e w' => ∃ v0_ : Value, e = .returned v0_ ∧ Kd.V (Kd.int .u8) 5 w' w.heap.size (fun k_ => w.heap.size ≤ k_) v0_ r ∧ Below w.heap.size w w' := by
  unfold conv_bytes.f at h
  by_cases hsz : a0.size ≤ 9223372036854775807
  case neg => rw [if_neg hsz] at h; cases h
  rw [if_pos hsz] at h
  obtain rfl : bytesOf a0 = r := Option.some.inj h
  have hcap : a0.size ≤ grownCap w a0.size 0 5 := by
    unfold grownCap
    simp only [Question.cut]
    omega
  refine ⟨_, _, Lib.run_convert_string_bytes w 9 33 5 a0 Try.underlying9 Try.underlying33 Try.underlying5, _, rfl, ?_, ?_⟩
  · refine ⟨some ⟨w.heap.size, 0, none⟩, grownCap w a0.size 0 5, by rw [bytesOf_length], by rw [bytesOf_length]; exact hcap, ?_⟩
    intro W' hW
    have hblk : W'.heap[w.heap.size]? = (Lib.bytesWorld w 5 a0).heap[w.heap.size]? := hW w.heap.size (Nat.le_refl _) (by rw [Lib.bytesWorld_size]; omega)
    refine ⟨rfl, by rw [bytesOf_length]; exact hsz, fun _ => ⟨_, rfl, fun j p hj => ⟨[.int .u8 p], rfl, rfl, fun i u hu => ?_⟩⟩⟩
    obtain ⟨hjl, hp⟩ := List.getElem?_eq_some_iff.1 hj
    obtain rfl : i = 0 := by
      have := (List.getElem?_eq_some_iff.1 hu).1
      simp at this
      exact this
    obtain rfl : Value.int .u8 p = u := by simpa using hu
    rw [bytesOf_length] at hjl
    have hc := Lib.bytesWorld_cell w 5 a0 j hjl
    have e1 : W'.cell? ⟨w.heap.size, j, none⟩ = (Lib.bytesWorld w 5 a0).cell? ⟨w.heap.size, j, none⟩ := World.cell?_of_block hblk
    have e2 : p = (((a0.data.toList.getD j 0).toNat : Nat) : Int) := by
      rw [← hp]
      simp [bytesOf, List.getD, hjl]
    have e3 : Addr.add ⟨w.heap.size, 0, none⟩ (j * 1 + 0) = ⟨w.heap.size, j, none⟩ := by
      simp only [Addr.add, Nat.mul_one, Nat.add_zero, Nat.zero_add]
      split
      · subst_vars; rfl
      · rfl
    rw [show (Kd.int .u8).sz = 1 from rfl, e3, e1, hc, e2]
  · have f1 := Lib.bytesWorld_size w 5 a0
    exact ⟨rfl, rfl, rfl, by rw [f1]; omega, fun k hk => Lib.bytesWorld_at_old w 5 a0 k hk⟩
end Go.Proofs.Ytpmjnggkhjjiaaa.A
