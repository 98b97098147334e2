/- The iterator under codec.List (framed), walked by hand. -/
import Derived.Test.YtmddhiokioojlaaAx2
import Derived.RangeFuncNested
import Derived.RangeFuncBound
import Derived.RangeFuncCalls
import Derived.RangeFuncLeaves
import Derived.RangeFuncBox
import Derived.Shelf.Abstract
import Derived.Shelf.RegionOpen
import Derived.WalkKit
import Derived.OwnWalkIn
import Derived.TacticsInMore
import Derived.LoopNIn
import Derived.LoopIn
import Derived.Outline
import Derived.Test.YtmddhiokioojlaaHandBuild
namespace Go.Proofs.Ytmddhiokioojlaa.A
open Go.RowKit Go.Shelf Go.Proofs.YtmddhiokioojlaaW.PrintWords Go.Proofs.YtmddhiokioojlaaW.PrintLast Go.Proofs.YtmddhiokioojlaaW.PrintMore
attribute [local go_sem] Oper.semAt_some
set_option linter.unusedVariables false
set_option linter.unusedSimpArgs false

def textOf (s : ByteArray) : ByteArray × Int := (codec_Text.f s).getD (⟨#[]⟩, 0)
theorem text_some (s : ByteArray) : codec_Text.f s = some (textOf s) := by
  unfold textOf
  have : ∃ r, codec_Text.f s = some r := by
    unfold codec_Text.f
    by_cases h : (s.size : Int) > 65536
    · rw [if_pos h]; exact ⟨_, rfl⟩
    · rw [if_neg h]
      unfold codec_Number.f
      rw [if_neg (by omega), if_neg (by omega)]
      simp only [Option.bind_some]
      rw [if_pos]
      · exact ⟨_, rfl⟩
      · have : (strOfNums ([((s.size : Int) / 16777216) % 256, ((s.size : Int) / 65536) % 256, ((s.size : Int) / 256) % 256, ((s.size : Int)) % 256] : List Int)).size = 4 := rfl
        omega
  obtain ⟨r, hr⟩ := this
  rw [hr]; rfl

/-- What the iterator tells of a text. -/
def framedOf (s : ByteArray) : ByteArray × Bool := ((textOf s).1, (textOf s).2 == 0)

/-- What an iterator's value may be: a text, not too long, and a bool. -/
abbrev Fr := { x : ByteArray × Bool // x.1.size ≤ 65540 }
theorem framedOf_size (s : ByteArray) : (framedOf s).1.size ≤ 65540 := by
  unfold framedOf textOf codec_Text.f
  by_cases h : (s.size : Int) > 65536
  · rw [if_pos h]; exact Nat.zero_le _
  · rw [if_neg h]
    unfold codec_Number.f
    rw [if_neg (by omega), if_neg (by omega)]
    simp only [Option.bind_some]
    have h4 : (strOfNums ([((s.size : Int) / 16777216) % 256, ((s.size : Int) / 65536) % 256, ((s.size : Int) / 256) % 256, ((s.size : Int)) % 256] : List Int)).size = 4 := rfl
    rw [if_pos (by omega)]
    simp only [Option.getD_some, ByteArray.size_append]
    omega
def frOf (s : ByteArray) : Fr := ⟨framedOf s, framedOf_size s⟩

theorem grown_none {W W' : World} (h : Below W.heap.size W W') : W.grownBy W' none := ⟨h.os, h.tape, h.output, h.size, fun k hk _ => h.block k hk⟩

set_option maxRecDepth 100000 in
set_option maxHeartbeats 2000000 in
/-- The iterator: for every loop body that keeps what lay below n₀. -/
theorem framed1_in (n : Nat) (hn : 1 ≤ n) (l Bs n₀ : Nat) (A : Option Addr) (c : Nat) (xs : List ByteArray) (hc : xs.length ≤ c) (J Jx : List Fr → World → Prop)
    (W : World) (hJ : AbidesFrom W.heap.size J)
    (hY : ∀ pre x W, J pre W → pre.length < xs.length → YieldAt Fence.wide (n - 1) Try.prog l #[.string x.1.1, .bool x.1.2] W fun e W' =>
      (e = .returned (.bool true) ∧ J (pre ++ [x]) W' ∧ Below n₀ W W') ∨ (e = .returned (.bool false) ∧ Jx (pre ++ [x]) W'))
    (hBs : W.cell? ⟨Bs, 0, none⟩ = some (.slice A xs.length c)) (hC : Kd.F Kd.string W (fun k => k < n₀) A xs.length xs) (hn₀ : n₀ ≤ W.heap.size) (h0 : J [] W) :
    CallsIn Fence.wide n Try.prog 39 #[.func (.yield l) #[] #[], .pointer (some ⟨Bs, 0, none⟩)] W fun e W' => (∃ v, e = .returned v) ∧
      ((∃ ys, ys = xs.map frOf ∧ J ys W') ∨ (∃ pre, pre <+: xs.map frOf ∧ Jx pre W')) := by
  have hlen : xs.length ≤ 9223372036854775807 := (Kd.F_now hC).2.1
  refine callsIn_of_wp Try.func39 rfl trivial ?_ rfl
  simp only [Try.ntmps39, List.size_toArray, List.length_cons, List.length_nil, Nat.reduceAdd, Nat.reduceSub, Array.replicate_succ, Array.replicate_zero, List.push_toArray, List.append_toArray, List.nil_append, List.cons_append]
  gi_wp2
  gi_loopw [9] (fun i wr => ∃ k : Nat, k ≤ xs.length ∧ i = .int .i64 k ∧ J ((xs.take k).map frOf) wr ∧ Below n₀ W wr)
    (fun i _ => xs.length - (intOf i).toNat)
  case atStart => exact ⟨0, Nat.zero_le _, rfl, by simpa using h0, Below.refl _ _⟩
  case round =>
    obtain ⟨k, hk, rfl, hJs, hnx⟩ := hrel
    by_cases hlt : k < xs.length
    · have hCr : Kd.C Kd.string wr A xs.length xs := hC wr (fun k hk _ => hnx.block k hk)
      obtain ⟨ad, hA, hcell⟩ := (Kd.reads_of_C hCr).at_ (d := (⟨#[]⟩ : ByteArray)) k (by omega) (by omega)
      subst hA
      have hts := text_some (rdOf (⟨#[]⟩ : ByteArray) xs k)
      obtain ⟨t1, t2, ht⟩ : ∃ t1 t2, textOf (rdOf (⟨#[]⟩ : ByteArray) xs k) = (t1, t2) := ⟨_, _, rfl⟩
      rw [ht] at hts
      have HT := Aside0.mk ht
      have HTS := Aside0.mk hts
      clear ht hts
      have hcell' : wr.cell? (ad.add k) = some (.string (rdOf (⟨#[]⟩ : ByteArray) xs k)) := by simpa using hcell
      clear hcell
      generalize hrd : rdOf (⟨#[]⟩ : ByteArray) xs k = x at *
      have HRD := Aside0.mk hrd
      clear hrd
      gi_wp2_with (refine ⟨trivial, ?_⟩; gi_at_call 16; refine (callsIn_wide.2 (codec_Text.calls _ _ _ _ HTS.out)).mono ?_; rintro e w1 ⟨rfl, hb⟩)
      have hJ1 := hJ _ wr w1 none hJs (grown_none hb) (fun r e => by cases e)
      obtain ⟨hsz, hfx⟩ : ∃ hsz : t1.size ≤ 65540, frOf x = ⟨(t1, t2 == 0), hsz⟩ := by
        have e1 : framedOf x = (t1, t2 == 0) := by unfold framedOf; rw [HT.out]
        have e2 := framedOf_size x
        rw [e1] at e2
        exact ⟨e2, Subtype.ext e1⟩
      obtain ⟨fn, tmps, assign, body, hy, hR⟩ := hY _ ⟨(t1, t2 == 0), hsz⟩ w1 hJ1 (by rw [List.length_map, List.length_take]; omega)
      dsimp only at hy
      have hxk : xs.take (k + 1) = xs.take k ++ [x] := by
        rw [List.take_succ_eq_append_getElem hlt]
        have h1 := HRD.out
        simp only [rdOf, Int.toNat_natCast, List.getD_eq_getElem?_getD, List.getElem?_eq_getElem hlt, Option.getD_some] at h1
        rw [h1]
      have HXK : Aside0 ((xs.take (k + 1)).map frOf = (xs.take k).map frOf ++ [⟨(t1, t2 == 0), hsz⟩]) := ⟨by rw [hxk, List.map_append, List.map_singleton, hfx]⟩
      clear hxk hfx
      rw [hy]
      gi_wp2
      refine hR.mono ?_
      rintro e W3 (⟨rfl, hJ3, hk3⟩ | ⟨rfl, hJx3⟩)
      · gi_wp2
        go_roundw
        case rel => exact ⟨k + 1, by omega, by simp, by rw [HXK.out]; exact hJ3, (hnx.trans (hb.mono (Nat.le_trans hn₀ hnx.size))).trans hk3⟩
        case measure => simp [intOf]; omega
      · gi_wp2
        refine bodyPost_ret (results_none rfl _ _ _) rfl ?_
        exact ⟨⟨_, rfl⟩, .inr ⟨_, by rw [← HXK.out]; exact (List.take_prefix _ _).map _, hJx3⟩⟩
    · obtain rfl : k = xs.length := by omega
      gi_wp2
      go_end0
      exact ⟨⟨_, rfl⟩, .inl ⟨_, rfl, by simpa using hJs⟩⟩

theorem framed_in (n : Nat) (A : Option Addr) (len cap : Nat) (w : World) :
    CallsIn Fence.wide n Try.prog 28 #[.slice A len cap] w fun e w' => e = .returned (.func (.func 39) #[] #[.pointer (some ⟨w.heap.size, 0, none⟩)]) ∧ w' = w.alloc (.cells #[.slice A len cap] 22) := by
  refine callsIn_of_wp Try.func28 rfl trivial ?_ rfl
  simp only [Try.ntmps28, List.size_toArray, List.length_cons, List.length_nil, Nat.reduceAdd, Nat.reduceSub, Array.replicate_succ, Array.replicate_zero, List.push_toArray, List.append_toArray, List.nil_append, List.cons_append]
  gi_wp2
  go_ret
  exact ⟨rfl, rfl⟩

theorem framed_stops (n : Nat) (hn : 1 ≤ n) (Bs n₀ : Nat) (A : Option Addr) (c : Nat) (xs : List ByteArray) (hc : xs.length ≤ c) (w : World) (hBs : Bs < w.heap.size) (hn₀ : n₀ ≤ w.heap.size)
    (hcell : w.cell? ⟨Bs, 0, none⟩ = some (.slice A xs.length c)) (hC : Kd.F Kd.string w (fun k => k < n₀) A xs.length xs) :
    SeqStopsK Fence.wide n Try.prog 39 #[.pointer (some ⟨Bs, 0, none⟩)] (fun x : Fr => #[Value.string x.1.1, Value.bool x.1.2]) (Below n₀) (fun ys => ys = xs.map frOf) (fun pre => pre <+: xs.map frOf) xs.length w := fun l J Jx W hW hJ _ hY h0 => by
  refine framed1_in n hn l Bs n₀ A c xs hc J Jx W hJ hY ((hW.cell (p := ⟨Bs, 0, none⟩) hBs).trans hcell) ?_ (Nat.le_trans hn₀ hW.size) h0
  exact Kd.F_step hC (fun k hk hlt => hW.block k hlt)
end Go.Proofs.Ytmddhiokioojlaa.A
