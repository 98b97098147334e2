/-
  No cell of these rows narrows 'for every input' (looked for: loops, veiled, ifaces, maps, wideKeys, modest, calm, conditions, laid).
  DERIVED. THE GIVEN ROWS OF THIS SEAT. 5 by the template 'for every input the law returns true; each argument reads behind the call as it read before'; 0 by the template 'total and deterministic' (their statements: YtpmjnggkhjjiaaaTotals.lean).
  GIVEN WITH THE SEED: the statements are not yours to turn. If you find one false, say at which input.
  Laid BY PROGRAM, IN A SANDBOX (cutbox-rows.mjs): the forced cells as the released guide's own fill.sh prints them over the translation dcbc84c51fcf6ce7… (all of the seat's roots in one cut). By AI agents, Wed Nov 11 2026. No macro, syntax, notation, axiom, sorry.
-/
import Derived.Test.YtpmjnggkhjjiaaaChecked
import GoSem.Claim
import GoSem.ClaimJoined
import GoSem.ClaimMapViews
import Derived.JoinedTies
import Derived.KernelRfl
namespace Go.Proofs.Ytpmjnggkhjjiaaa
/- THE CELL 'sum', in the pinned program and in every row, IS THE sha256 OF THE DUMP (.gsa) THAT YtpmjnggkhjjiaaaProg.lean LOADS. Nothing in Lean hashes anything: it is a label: what it is worth is what the hold of that sum in a sandbox is worth. -/
noncomputable def Try.pinned : Pinned := { name := "ytpmjnggkhjjiaaa", sum := "dcbc84c51fcf6ce75b649d9ed1502c241e0c934da5f03af3742ffd7261d04738", checked := Try.checked }
namespace Rows
def none {H : Type} : Left H := { results := [], args := [] }

/-- 'columbariumlaw16.WordsTells': WHATEVER THE INPUT: true; the input reads as it did. -/
def wordsTellsSpec : ChangeSpec := { name := "wordsTells", fn := fun _ => fun
  | [d1, d2, d3, d4] => { results := [.lit (.bool true)], args := [d1, d2, d3, d4] }
  | _ => none }
def wordsTellsRow : OpenClaim := { program := "ytpmjnggkhjjiaaa", sum := "dcbc84c51fcf6ce75b649d9ed1502c241e0c934da5f03af3742ffd7261d04738", func := "columbarium/columbariumlaw16.WordsTells", spec := "wordsTells", unfollowed := true, recurses := true, apart := false }
def WordsTellsSaid : Prop := wordsTellsRow.holds Try.pinned (OpenSpec.ofChange wordsTellsSpec)

/-- ITS FALSE NEIGHBOUR: 'it returns false'. Refute it at one input. -/
def wordsTellsWrong : ChangeSpec := { name := "wordsTells", fn := fun _ => fun
  | [d1, d2, d3, d4] => { results := [.lit (.bool false)], args := [d1, d2, d3, d4] }
  | _ => none }
def WordsTellsWrongFalsely : Prop := wordsTellsRow.holds Try.pinned (OpenSpec.ofChange wordsTellsWrong)

/-- 'columbariumlaw16.WordsSame': WHATEVER THE INPUT: true; the input reads as it did. -/
def wordsSameSpec : ChangeSpec := { name := "wordsSame", fn := fun _ => fun
  | [d1, d2] => { results := [.lit (.bool true)], args := [d1, d2] }
  | _ => none }
def wordsSameRow : OpenClaim := { program := "ytpmjnggkhjjiaaa", sum := "dcbc84c51fcf6ce75b649d9ed1502c241e0c934da5f03af3742ffd7261d04738", func := "columbarium/columbariumlaw16.WordsSame", spec := "wordsSame", unfollowed := true, recurses := true, apart := false }
def WordsSameSaid : Prop := wordsSameRow.holds Try.pinned (OpenSpec.ofChange wordsSameSpec)

/-- ITS FALSE NEIGHBOUR: 'it returns false'. Refute it at one input. -/
def wordsSameWrong : ChangeSpec := { name := "wordsSame", fn := fun _ => fun
  | [d1, d2] => { results := [.lit (.bool false)], args := [d1, d2] }
  | _ => none }
def WordsSameWrongFalsely : Prop := wordsSameRow.holds Try.pinned (OpenSpec.ofChange wordsSameWrong)

/-- 'columbariumlaw16.WordsParts': WHATEVER THE INPUT: true; the input reads as it did. -/
def wordsPartsSpec : ChangeSpec := { name := "wordsParts", fn := fun _ => fun
  | [d1, d2, d3] => { results := [.lit (.bool true)], args := [d1, d2, d3] }
  | _ => none }
def wordsPartsRow : OpenClaim := { program := "ytpmjnggkhjjiaaa", sum := "dcbc84c51fcf6ce75b649d9ed1502c241e0c934da5f03af3742ffd7261d04738", func := "columbarium/columbariumlaw16.WordsParts", spec := "wordsParts", unfollowed := true, recurses := true, apart := false }
def WordsPartsSaid : Prop := wordsPartsRow.holds Try.pinned (OpenSpec.ofChange wordsPartsSpec)

/-- ITS FALSE NEIGHBOUR: 'it returns false'. Refute it at one input. -/
def wordsPartsWrong : ChangeSpec := { name := "wordsParts", fn := fun _ => fun
  | [d1, d2, d3] => { results := [.lit (.bool false)], args := [d1, d2, d3] }
  | _ => none }
def WordsPartsWrongFalsely : Prop := wordsPartsRow.holds Try.pinned (OpenSpec.ofChange wordsPartsWrong)

/-- 'columbariumlaw16.WordsSigns': WHATEVER THE INPUT: true; the input reads as it did. -/
def wordsSignsSpec : ChangeSpec := { name := "wordsSigns", fn := fun _ => fun
  | [d1, d2] => { results := [.lit (.bool true)], args := [d1, d2] }
  | _ => none }
def wordsSignsRow : OpenClaim := { program := "ytpmjnggkhjjiaaa", sum := "dcbc84c51fcf6ce75b649d9ed1502c241e0c934da5f03af3742ffd7261d04738", func := "columbarium/columbariumlaw16.WordsSigns", spec := "wordsSigns", unfollowed := true, recurses := true, apart := false }
def WordsSignsSaid : Prop := wordsSignsRow.holds Try.pinned (OpenSpec.ofChange wordsSignsSpec)

/-- ITS FALSE NEIGHBOUR: 'it returns false'. Refute it at one input. -/
def wordsSignsWrong : ChangeSpec := { name := "wordsSigns", fn := fun _ => fun
  | [d1, d2] => { results := [.lit (.bool false)], args := [d1, d2] }
  | _ => none }
def WordsSignsWrongFalsely : Prop := wordsSignsRow.holds Try.pinned (OpenSpec.ofChange wordsSignsWrong)

/-- 'columbariumlaw16.WordsSets': WHATEVER THE INPUT: true; the input reads as it did. -/
def wordsSetsSpec : ChangeSpec := { name := "wordsSets", fn := fun _ => fun
  | [d1, d2] => { results := [.lit (.bool true)], args := [d1, d2] }
  | _ => none }
def wordsSetsRow : OpenClaim := { program := "ytpmjnggkhjjiaaa", sum := "dcbc84c51fcf6ce75b649d9ed1502c241e0c934da5f03af3742ffd7261d04738", func := "columbarium/columbariumlaw16.WordsSets", spec := "wordsSets", unfollowed := true, recurses := true, apart := false }
def WordsSetsSaid : Prop := wordsSetsRow.holds Try.pinned (OpenSpec.ofChange wordsSetsSpec)

/-- ITS FALSE NEIGHBOUR: 'it returns false'. Refute it at one input. -/
def wordsSetsWrong : ChangeSpec := { name := "wordsSets", fn := fun _ => fun
  | [d1, d2] => { results := [.lit (.bool false)], args := [d1, d2] }
  | _ => none }
def WordsSetsWrongFalsely : Prop := wordsSetsRow.holds Try.pinned (OpenSpec.ofChange wordsSetsWrong)

/- THE SECOND FORM. 'bulk': how many values and letters a reading holds, each counted each time it is reached (what is shared counts as often as it is met; a slice's spare places count too). A statement '..UptoSaid' is the law's where the arguments, and the package variables that the reading takes, are together of bulk at most 1048576: NARROWER than '..Said'. Prove '..Said' where nothing that the law and all that it calls make is longer than what came in: it says more and counts as full. Else prove '..UptoSaid'. A law counts once. -/
mutual
def uptoBulk {H : Type} : DataW H → Nat
  | .lit (.string bytes) => bytes.length + 1
  | .lit _ => 1
  | .nil => 1
  | .ptr d => uptoBulk d + 1
  | .slice elems spare => uptoBulkAll elems + uptoBulkAll spare + 1
  | .agg parts => uptoBulkAll parts + 1
  | .iface _ d => uptoBulk d + 1
  | .map entries => uptoBulkEntries entries + 1
  | .held _ => 1
def uptoBulkAll {H : Type} : List (DataW H) → Nat
  | [] => 0
  | d :: r => uptoBulk d + uptoBulkAll r
def uptoBulkEntries {H : Type} : List (Lit × DataW H) → Nat
  | [] => 0
  | x :: r => uptoBulkEntry x + uptoBulkEntries r
def uptoBulkEntry {H : Type} : Lit × DataW H → Nat
  | (.string bytes, d) => bytes.length + uptoBulk d + 1
  | (_, d) => uptoBulk d + 1
 end
def uptoSmall : (H : Type) → List (DataW H) → Bool := fun _ ds => decide (uptoBulkAll ds ≤ 1048576)
def OpenSpec.upto (s : _root_.Go.ChangeSpec) : _root_.Go.OpenSpec := { _root_.Go.OpenSpec.ofChange s with cond := some uptoSmall }

/-- 'columbariumlaw16.WordsTells', WHERE WHAT IT READS IS OF BULK AT MOST 1048576: true; the input reads as it did. -/
def wordsTellsUptoRow : OpenClaim := { program := "ytpmjnggkhjjiaaa", sum := "dcbc84c51fcf6ce75b649d9ed1502c241e0c934da5f03af3742ffd7261d04738", func := "columbarium/columbariumlaw16.WordsTells", spec := "wordsTells", unfollowed := true, recurses := true, apart := false, narrowed := true }
def WordsTellsUptoSaid : Prop := wordsTellsUptoRow.holds Try.pinned (OpenSpec.upto wordsTellsSpec)

/-- 'columbariumlaw16.WordsSame', WHERE WHAT IT READS IS OF BULK AT MOST 1048576: true; the input reads as it did. -/
def wordsSameUptoRow : OpenClaim := { program := "ytpmjnggkhjjiaaa", sum := "dcbc84c51fcf6ce75b649d9ed1502c241e0c934da5f03af3742ffd7261d04738", func := "columbarium/columbariumlaw16.WordsSame", spec := "wordsSame", unfollowed := true, recurses := true, apart := false, narrowed := true }
def WordsSameUptoSaid : Prop := wordsSameUptoRow.holds Try.pinned (OpenSpec.upto wordsSameSpec)

/-- 'columbariumlaw16.WordsParts', WHERE WHAT IT READS IS OF BULK AT MOST 1048576: true; the input reads as it did. -/
def wordsPartsUptoRow : OpenClaim := { program := "ytpmjnggkhjjiaaa", sum := "dcbc84c51fcf6ce75b649d9ed1502c241e0c934da5f03af3742ffd7261d04738", func := "columbarium/columbariumlaw16.WordsParts", spec := "wordsParts", unfollowed := true, recurses := true, apart := false, narrowed := true }
def WordsPartsUptoSaid : Prop := wordsPartsUptoRow.holds Try.pinned (OpenSpec.upto wordsPartsSpec)

/-- 'columbariumlaw16.WordsSigns', WHERE WHAT IT READS IS OF BULK AT MOST 1048576: true; the input reads as it did. -/
def wordsSignsUptoRow : OpenClaim := { program := "ytpmjnggkhjjiaaa", sum := "dcbc84c51fcf6ce75b649d9ed1502c241e0c934da5f03af3742ffd7261d04738", func := "columbarium/columbariumlaw16.WordsSigns", spec := "wordsSigns", unfollowed := true, recurses := true, apart := false, narrowed := true }
def WordsSignsUptoSaid : Prop := wordsSignsUptoRow.holds Try.pinned (OpenSpec.upto wordsSignsSpec)

/-- 'columbariumlaw16.WordsSets', WHERE WHAT IT READS IS OF BULK AT MOST 1048576: true; the input reads as it did. -/
def wordsSetsUptoRow : OpenClaim := { program := "ytpmjnggkhjjiaaa", sum := "dcbc84c51fcf6ce75b649d9ed1502c241e0c934da5f03af3742ffd7261d04738", func := "columbarium/columbariumlaw16.WordsSets", spec := "wordsSets", unfollowed := true, recurses := true, apart := false, narrowed := true }
def WordsSetsUptoSaid : Prop := wordsSetsUptoRow.holds Try.pinned (OpenSpec.upto wordsSetsSpec)

end Rows
end Go.Proofs.Ytpmjnggkhjjiaaa
