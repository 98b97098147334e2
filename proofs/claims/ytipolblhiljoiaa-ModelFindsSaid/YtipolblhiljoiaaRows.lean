/-
  No cell of these rows narrows 'for every input' (looked for: loops, veiled, ifaces, maps, wideKeys, modest, calm, conditions, laid).
  DERIVED. THE GIVEN ROWS OF THIS SEAT. 5 by the template 'for every input the law returns true; each argument reads behind the call as it read before'; 0 by the template 'total and deterministic' (their statements: YtipolblhiljoiaaTotals.lean).
  GIVEN WITH THE SEED: the statements are not yours to turn. If you find one false, say at which input.
  Laid BY PROGRAM, IN A SANDBOX (cutbox-rows.mjs): the forced cells as the released guide's own fill.sh prints them over the translation fcfdebf33d80a203… (all of the seat's roots in one cut). By AI agents, Wed Nov 11 2026. No macro, syntax, notation, axiom, sorry.
-/
import Derived.Test.YtipolblhiljoiaaChecked
import GoSem.Claim
import GoSem.ClaimJoined
import GoSem.ClaimMapViews
import Derived.JoinedTies
import Derived.KernelRfl
namespace Go.Proofs.Ytipolblhiljoiaa
/- THE CELL 'sum', in the pinned program and in every row, IS THE sha256 OF THE DUMP (.gsa) THAT YtipolblhiljoiaaProg.lean LOADS. Nothing in Lean hashes anything: it is a label: what it is worth is what the hold of that sum in a sandbox is worth. -/
noncomputable def Try.pinned : Pinned := { name := "ytipolblhiljoiaa", sum := "fcfdebf33d80a20302fe31ef7a3a0e50bfe6aee25a6de5c54d4428bc981e8673", checked := Try.checked }
namespace Rows
def none {H : Type} : Left H := { results := [], args := [] }

/-- 'columbariumlaw17.ModelFinds': WHATEVER THE INPUT: true; the input reads as it did. -/
def modelFindsSpec : ChangeSpec := { name := "modelFinds", fn := fun _ => fun
  | [d1, d2, d3, d4] => { results := [.lit (.bool true)], args := [d1, d2, d3, d4] }
  | _ => none }
def modelFindsRow : OpenClaim := { program := "ytipolblhiljoiaa", sum := "fcfdebf33d80a20302fe31ef7a3a0e50bfe6aee25a6de5c54d4428bc981e8673", func := "columbarium/columbariumlaw17.ModelFinds", spec := "modelFinds", inPlace := ["slices.overlaps[columbarium/api.Doc]"], unfollowed := true, recurses := true, apart := false }
def ModelFindsSaid : Prop := modelFindsRow.holds Try.pinned (OpenSpec.ofChange modelFindsSpec)

/-- ITS FALSE NEIGHBOUR: 'it returns false'. Refute it at one input. -/
def modelFindsWrong : ChangeSpec := { name := "modelFinds", fn := fun _ => fun
  | [d1, d2, d3, d4] => { results := [.lit (.bool false)], args := [d1, d2, d3, d4] }
  | _ => none }
def ModelFindsWrongFalsely : Prop := modelFindsRow.holds Try.pinned (OpenSpec.ofChange modelFindsWrong)

/-- 'columbariumlaw17.ModelOrders': WHATEVER THE INPUT: true; the input reads as it did. -/
def modelOrdersSpec : ChangeSpec := { name := "modelOrders", fn := fun _ => fun
  | [d1, d2, d3] => { results := [.lit (.bool true)], args := [d1, d2, d3] }
  | _ => none }
def modelOrdersRow : OpenClaim := { program := "ytipolblhiljoiaa", sum := "fcfdebf33d80a20302fe31ef7a3a0e50bfe6aee25a6de5c54d4428bc981e8673", func := "columbarium/columbariumlaw17.ModelOrders", spec := "modelOrders", inPlace := ["slices.overlaps[columbarium/api.Doc]"], unfollowed := true, recurses := true, apart := false }
def ModelOrdersSaid : Prop := modelOrdersRow.holds Try.pinned (OpenSpec.ofChange modelOrdersSpec)

/-- ITS FALSE NEIGHBOUR: 'it returns false'. Refute it at one input. -/
def modelOrdersWrong : ChangeSpec := { name := "modelOrders", fn := fun _ => fun
  | [d1, d2, d3] => { results := [.lit (.bool false)], args := [d1, d2, d3] }
  | _ => none }
def ModelOrdersWrongFalsely : Prop := modelOrdersRow.holds Try.pinned (OpenSpec.ofChange modelOrdersWrong)

/-- 'columbariumlaw17.ModelSearches': WHATEVER THE INPUT: true; the input reads as it did. -/
def modelSearchesSpec : ChangeSpec := { name := "modelSearches", fn := fun _ => fun
  | [d1, d2, d3, d4] => { results := [.lit (.bool true)], args := [d1, d2, d3, d4] }
  | _ => none }
def modelSearchesRow : OpenClaim := { program := "ytipolblhiljoiaa", sum := "fcfdebf33d80a20302fe31ef7a3a0e50bfe6aee25a6de5c54d4428bc981e8673", func := "columbarium/columbariumlaw17.ModelSearches", spec := "modelSearches", inPlace := ["slices.overlaps[columbarium/api.Doc]"], unfollowed := true, recurses := true, apart := false }
def ModelSearchesSaid : Prop := modelSearchesRow.holds Try.pinned (OpenSpec.ofChange modelSearchesSpec)

/-- ITS FALSE NEIGHBOUR: 'it returns false'. Refute it at one input. -/
def modelSearchesWrong : ChangeSpec := { name := "modelSearches", fn := fun _ => fun
  | [d1, d2, d3, d4] => { results := [.lit (.bool false)], args := [d1, d2, d3, d4] }
  | _ => none }
def ModelSearchesWrongFalsely : Prop := modelSearchesRow.holds Try.pinned (OpenSpec.ofChange modelSearchesWrong)

/-- 'columbariumlaw17.ModelCounts': WHATEVER THE INPUT: true; the input reads as it did. -/
def modelCountsSpec : ChangeSpec := { name := "modelCounts", fn := fun _ => fun
  | [d1, d2] => { results := [.lit (.bool true)], args := [d1, d2] }
  | _ => none }
def modelCountsRow : OpenClaim := { program := "ytipolblhiljoiaa", sum := "fcfdebf33d80a20302fe31ef7a3a0e50bfe6aee25a6de5c54d4428bc981e8673", func := "columbarium/columbariumlaw17.ModelCounts", spec := "modelCounts", inPlace := ["slices.overlaps[columbarium/api.Doc]"], unfollowed := true, recurses := true, apart := false }
def ModelCountsSaid : Prop := modelCountsRow.holds Try.pinned (OpenSpec.ofChange modelCountsSpec)

/-- ITS FALSE NEIGHBOUR: 'it returns false'. Refute it at one input. -/
def modelCountsWrong : ChangeSpec := { name := "modelCounts", fn := fun _ => fun
  | [d1, d2] => { results := [.lit (.bool false)], args := [d1, d2] }
  | _ => none }
def ModelCountsWrongFalsely : Prop := modelCountsRow.holds Try.pinned (OpenSpec.ofChange modelCountsWrong)

/-- 'columbariumlaw17.ModelAgain': WHATEVER THE INPUT: true; the input reads as it did. -/
def modelAgainSpec : ChangeSpec := { name := "modelAgain", fn := fun _ => fun
  | [d1, d2] => { results := [.lit (.bool true)], args := [d1, d2] }
  | _ => none }
def modelAgainRow : OpenClaim := { program := "ytipolblhiljoiaa", sum := "fcfdebf33d80a20302fe31ef7a3a0e50bfe6aee25a6de5c54d4428bc981e8673", func := "columbarium/columbariumlaw17.ModelAgain", spec := "modelAgain", inPlace := ["slices.overlaps[columbarium/api.Doc]"], unfollowed := true, recurses := true, apart := false }
def ModelAgainSaid : Prop := modelAgainRow.holds Try.pinned (OpenSpec.ofChange modelAgainSpec)

/-- ITS FALSE NEIGHBOUR: 'it returns false'. Refute it at one input. -/
def modelAgainWrong : ChangeSpec := { name := "modelAgain", fn := fun _ => fun
  | [d1, d2] => { results := [.lit (.bool false)], args := [d1, d2] }
  | _ => none }
def ModelAgainWrongFalsely : Prop := modelAgainRow.holds Try.pinned (OpenSpec.ofChange modelAgainWrong)

/- THE SECOND FORM. 'bulk': how many values and letters a reading holds, each counted each time it is reached (what is shared counts as often as it is met; a slice's spare places count too). A statement '..UptoSaid' is the law's where the arguments, and the package variables that the reading takes, are together of bulk at most 1048576: NARROWER than '..Said'. Prove '..Said' where nothing that the law and all that it calls make is longer than what came in: it says more and counts as full. Else prove '..UptoSaid'. A law counts once. -/
mutual
def uptoBulk {H : Type} : DataW H → Nat
  | .lit (.string bytes) => bytes.length + 1
  | .lit _ => 1
  | .nil => 1
  | .ptr d => uptoBulk d + 1
  | .slice elems spare => uptoBulkAll elems + uptoBulkAll spare + 1
  | .agg parts => uptoBulkAll parts + 1
  | .iface _ d => uptoBulk d + 1
  | .map entries => uptoBulkEntries entries + 1
  | .held _ => 1
def uptoBulkAll {H : Type} : List (DataW H) → Nat
  | [] => 0
  | d :: r => uptoBulk d + uptoBulkAll r
def uptoBulkEntries {H : Type} : List (Lit × DataW H) → Nat
  | [] => 0
  | x :: r => uptoBulkEntry x + uptoBulkEntries r
def uptoBulkEntry {H : Type} : Lit × DataW H → Nat
  | (.string bytes, d) => bytes.length + uptoBulk d + 1
  | (_, d) => uptoBulk d + 1
 end
def uptoSmall : (H : Type) → List (DataW H) → Bool := fun _ ds => decide (uptoBulkAll ds ≤ 1048576)
def OpenSpec.upto (s : _root_.Go.ChangeSpec) : _root_.Go.OpenSpec := { _root_.Go.OpenSpec.ofChange s with cond := some uptoSmall }

/-- 'columbariumlaw17.ModelFinds', WHERE WHAT IT READS IS OF BULK AT MOST 1048576: true; the input reads as it did. -/
def modelFindsUptoRow : OpenClaim := { program := "ytipolblhiljoiaa", sum := "fcfdebf33d80a20302fe31ef7a3a0e50bfe6aee25a6de5c54d4428bc981e8673", func := "columbarium/columbariumlaw17.ModelFinds", spec := "modelFinds", inPlace := ["slices.overlaps[columbarium/api.Doc]"], unfollowed := true, recurses := true, apart := false, narrowed := true }
def ModelFindsUptoSaid : Prop := modelFindsUptoRow.holds Try.pinned (OpenSpec.upto modelFindsSpec)

/-- 'columbariumlaw17.ModelOrders', WHERE WHAT IT READS IS OF BULK AT MOST 1048576: true; the input reads as it did. -/
def modelOrdersUptoRow : OpenClaim := { program := "ytipolblhiljoiaa", sum := "fcfdebf33d80a20302fe31ef7a3a0e50bfe6aee25a6de5c54d4428bc981e8673", func := "columbarium/columbariumlaw17.ModelOrders", spec := "modelOrders", inPlace := ["slices.overlaps[columbarium/api.Doc]"], unfollowed := true, recurses := true, apart := false, narrowed := true }
def ModelOrdersUptoSaid : Prop := modelOrdersUptoRow.holds Try.pinned (OpenSpec.upto modelOrdersSpec)

/-- 'columbariumlaw17.ModelSearches', WHERE WHAT IT READS IS OF BULK AT MOST 1048576: true; the input reads as it did. -/
def modelSearchesUptoRow : OpenClaim := { program := "ytipolblhiljoiaa", sum := "fcfdebf33d80a20302fe31ef7a3a0e50bfe6aee25a6de5c54d4428bc981e8673", func := "columbarium/columbariumlaw17.ModelSearches", spec := "modelSearches", inPlace := ["slices.overlaps[columbarium/api.Doc]"], unfollowed := true, recurses := true, apart := false, narrowed := true }
def ModelSearchesUptoSaid : Prop := modelSearchesUptoRow.holds Try.pinned (OpenSpec.upto modelSearchesSpec)

/-- 'columbariumlaw17.ModelCounts', WHERE WHAT IT READS IS OF BULK AT MOST 1048576: true; the input reads as it did. -/
def modelCountsUptoRow : OpenClaim := { program := "ytipolblhiljoiaa", sum := "fcfdebf33d80a20302fe31ef7a3a0e50bfe6aee25a6de5c54d4428bc981e8673", func := "columbarium/columbariumlaw17.ModelCounts", spec := "modelCounts", inPlace := ["slices.overlaps[columbarium/api.Doc]"], unfollowed := true, recurses := true, apart := false, narrowed := true }
def ModelCountsUptoSaid : Prop := modelCountsUptoRow.holds Try.pinned (OpenSpec.upto modelCountsSpec)

/-- 'columbariumlaw17.ModelAgain', WHERE WHAT IT READS IS OF BULK AT MOST 1048576: true; the input reads as it did. -/
def modelAgainUptoRow : OpenClaim := { program := "ytipolblhiljoiaa", sum := "fcfdebf33d80a20302fe31ef7a3a0e50bfe6aee25a6de5c54d4428bc981e8673", func := "columbarium/columbariumlaw17.ModelAgain", spec := "modelAgain", inPlace := ["slices.overlaps[columbarium/api.Doc]"], unfollowed := true, recurses := true, apart := false, narrowed := true }
def ModelAgainUptoSaid : Prop := modelAgainUptoRow.holds Try.pinned (OpenSpec.upto modelAgainSpec)

end Rows
end Go.Proofs.Ytipolblhiljoiaa
