/- slices.Clip of texts: the same texts, in the same memory. -/
import Derived.Test.YtmddhiokioojlaaAx0
namespace Go.Proofs.Ytmddhiokioojlaa.A
open Go.RowKit Go.Proofs.YtmddhiokioojlaaW.PrintWords Go.Proofs.YtmddhiokioojlaaW.PrintLast Go.Proofs.YtmddhiokioojlaaW.PrintMore

def slices_Clip_string_string.f (l0 : List ByteArray) : Option (List ByteArray) := some l0

set_option maxHeartbeats 4000000 in
set_option maxRecDepth 100000 in
theorem slices_Clip_string_string.calls (P0_ : Nat → Prop) (A0 : Option Addr) (c0 : Nat) (l0 : List ByteArray) (r : List ByteArray) (w : World) (hs0 : Kd.V Kd.string 9 w w.heap.size (fun k_ => P0_ k_) (.slice A0 l0.length c0) l0) (h : slices_Clip_string_string.f l0 = some r) :
    Calls Try.prog 37 #[.slice A0 l0.length c0] w fun e w' => ∃ v0_ : Value, e = .returned (v0_) ∧ Kd.V Kd.string 9 w' w.heap.size (fun k_ => (P0_ k_ ∨ w.heap.size ≤ k_)) v0_ r ∧ Below w.heap.size w w' := by
  obtain rfl : l0 = r := Option.some.inj h
  clear h
  obtain ⟨_, hc, hF⟩ := Kd.V_at hs0
  have hn : l0.length ≤ 9223372036854775807 := (Kd.F_now hF).2.1
  have hR : Kd.V Kd.string 9 w w.heap.size (fun k_ => (P0_ k_ ∨ w.heap.size ≤ k_)) (.slice A0 l0.length l0.length) l0 := Kd.V_mk (Nat.le_refl _) (Kd.F_mono hF (fun _ hk => .inl hk))
  have HR := Aside0.mk hR
  clear hR hF hs0
  cases A0 with
  | none =>
    go_enter Try.func37, Try.ntmps37
    go_wp2
    go_ret
    exact ⟨_, rfl, HR.out, Below.refl _ _⟩
  | some ad =>
    go_enter Try.func37, Try.ntmps37
    go_wp2
    go_ret
    exact ⟨_, rfl, HR.out, Below.refl _ _⟩
end Go.Proofs.Ytmddhiokioojlaa.A
