/- Layer 17: the law's first calls, in plain words. -/
import Derived.Test.YtipolblhiljoiaaC17y
namespace Go.Proofs.Ytipolblhiljoiaa.Sy
open Go Go.RowKit
set_option linter.unusedVariables false
set_option linter.unusedSimpArgs false
def catW : ByteArray := ⟨#[99, 97, 116]⟩
def dogW : ByteArray := ⟨#[100, 111, 103]⟩
def catdogW : ByteArray := ⟨#[99, 97, 116, 32, 100, 111, 103]⟩
theorem setV_of {s : ByteArray} {r ws : List ByteArray} (h1 : wordsOf s = ws) (hr : (r.map bl).Pairwise (· < ·)) (h : ∀ w, w ∈ r ↔ w ∈ ws) (h2 : s.size ≤ 2000) (h3 : r.length ≤ 12) : setV s = (r, 0) := by
  have e : setOf s = r := by unfold setOf; rw [h1]; exact (onceOf_unique hr h).symm
  unfold setV
  rw [if_neg (by omega), e, if_neg (by omega)]
theorem set_catdog : setV catdogW = ([catW, dogW], 0) :=
  setV_of (ws := [catW, dogW]) (by decide +kernel) (by decide +kernel) (fun w => Iff.rfl) (by decide) (by decide)
theorem set_dog : setV dogW = ([dogW], 0) :=
  setV_of (ws := [dogW]) (by decide +kernel) (by decide +kernel) (fun w => Iff.rfl) (by decide) (by decide)
theorem set_none : setV ⟨#[]⟩ = ([], 0) :=
  setV_of (ws := []) (by decide +kernel) (by decide +kernel) (fun w => Iff.rfl) (by decide) (by decide)
def awL : List DocW := [⟨7, [catW, dogW]⟩]
theorem aw_right : rightD awL = true := by decide +kernel
theorem aw1 : doM [] 1 7 catdogW = (awL, [], 0) := by
  unfold doM
  rw [set_catdog]
  decide +kernel
theorem aw2 : doM awL 4 0 dogW = (awL, [7], 0) := by
  unfold doM
  rw [set_dog]
  decide +kernel
theorem aw3 : doM awL 1 7 ⟨#[]⟩ = (awL, [], 21) := by
  unfold doM
  rw [set_none]
  decide +kernel
theorem aw4 : doM awL 2 8 ⟨#[]⟩ = (awL, [], 22) := by
  unfold doM
  rw [set_none]
  decide +kernel
theorem aw5 : doM awL 0 0 ⟨#[]⟩ = (awL, [], 1) := by
  unfold doM
  rw [set_none]
  decide +kernel
theorem aw6 : getD awL 7 = (⟨7, [catW, dogW]⟩, true) := by decide +kernel
theorem aw7 : allM awL [catW, dogW] = [7] := by decide +kernel
end Go.Proofs.Ytipolblhiljoiaa.Sy
