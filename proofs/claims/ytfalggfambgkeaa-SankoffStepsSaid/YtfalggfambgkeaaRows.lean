/-
  No cell of these rows narrows 'for every input' (looked for: loops, veiled, ifaces, maps, wideKeys, modest, calm, conditions, laid).
  DERIVED. THE GIVEN ROWS OF THIS SEAT. 11 by the template 'for every input the law returns true; each argument reads behind the call as it read before'; 0 by the template 'total and deterministic' (their statements: YtfalggfambgkeaaTotals.lean).
  GIVEN WITH THE SEED: the statements are not yours to turn. If you find one false, say at which input.
  Laid BY PROGRAM, IN A SANDBOX (cutbox-rows.mjs): the forced cells as the released guide's own fill.sh prints them over the translation 26b6e500bd0429cc… (all of the seat's roots in one cut). By AI agents, Wed Nov 11 2026. No macro, syntax, notation, axiom, sorry.
-/
import Derived.Test.YtfalggfambgkeaaChecked
import GoSem.Claim
import GoSem.ClaimJoined
import GoSem.ClaimMapViews
import Derived.JoinedTies
import Derived.KernelRfl
namespace Go.Proofs.Ytfalggfambgkeaa
/- THE CELL 'sum', in the pinned program and in every row, IS THE sha256 OF THE DUMP (.gsa) THAT YtfalggfambgkeaaProg.lean LOADS. Nothing in Lean hashes anything: it is a label: what it is worth is what the hold of that sum in a sandbox is worth. -/
noncomputable def Try.pinned : Pinned := { name := "ytfalggfambgkeaa", sum := "26b6e500bd0429cc49ec186b7cecaa70b5a7b4272201a9c2876e00593efc4cb7", checked := Try.checked }
namespace Rows
def none {H : Type} : Left H := { results := [], args := [] }

/-- 'ablautlaw23.SankoffSteps': WHATEVER THE INPUT: true; the input reads as it did. -/
def sankoffStepsSpec : ChangeSpec := { name := "sankoffSteps", fn := fun _ => fun
  | [d1, d2, d3, d4] => { results := [.lit (.bool true)], args := [d1, d2, d3, d4] }
  | _ => none }
def sankoffStepsRow : OpenClaim := { program := "ytfalggfambgkeaa", sum := "26b6e500bd0429cc49ec186b7cecaa70b5a7b4272201a9c2876e00593efc4cb7", func := "ablaut/ablautlaw23.SankoffSteps", spec := "sankoffSteps", unfollowed := true, recurses := true, apart := false }
def SankoffStepsSaid : Prop := sankoffStepsRow.holds Try.pinned (OpenSpec.ofChange sankoffStepsSpec)

/-- ITS FALSE NEIGHBOUR: 'it returns false'. Refute it at one input. -/
def sankoffStepsWrong : ChangeSpec := { name := "sankoffSteps", fn := fun _ => fun
  | [d1, d2, d3, d4] => { results := [.lit (.bool false)], args := [d1, d2, d3, d4] }
  | _ => none }
def SankoffStepsWrongFalsely : Prop := sankoffStepsRow.holds Try.pinned (OpenSpec.ofChange sankoffStepsWrong)

/-- 'ablautlaw23.SankoffLess': WHATEVER THE INPUT: true; the input reads as it did. -/
def sankoffLessSpec : ChangeSpec := { name := "sankoffLess", fn := fun _ => fun
  | [d1, d2, d3, d4, d5] => { results := [.lit (.bool true)], args := [d1, d2, d3, d4, d5] }
  | _ => none }
def sankoffLessRow : OpenClaim := { program := "ytfalggfambgkeaa", sum := "26b6e500bd0429cc49ec186b7cecaa70b5a7b4272201a9c2876e00593efc4cb7", func := "ablaut/ablautlaw23.SankoffLess", spec := "sankoffLess", unfollowed := true, recurses := true, apart := false }
def SankoffLessSaid : Prop := sankoffLessRow.holds Try.pinned (OpenSpec.ofChange sankoffLessSpec)

/-- ITS FALSE NEIGHBOUR: 'it returns false'. Refute it at one input. -/
def sankoffLessWrong : ChangeSpec := { name := "sankoffLess", fn := fun _ => fun
  | [d1, d2, d3, d4, d5] => { results := [.lit (.bool false)], args := [d1, d2, d3, d4, d5] }
  | _ => none }
def SankoffLessWrongFalsely : Prop := sankoffLessRow.holds Try.pinned (OpenSpec.ofChange sankoffLessWrong)

/-- 'ablautlaw23.SankoffMore': WHATEVER THE INPUT: true; the input reads as it did. -/
def sankoffMoreSpec : ChangeSpec := { name := "sankoffMore", fn := fun _ => fun
  | [d1, d2, d3, d4, d5] => { results := [.lit (.bool true)], args := [d1, d2, d3, d4, d5] }
  | _ => none }
def sankoffMoreRow : OpenClaim := { program := "ytfalggfambgkeaa", sum := "26b6e500bd0429cc49ec186b7cecaa70b5a7b4272201a9c2876e00593efc4cb7", func := "ablaut/ablautlaw23.SankoffMore", spec := "sankoffMore", unfollowed := true, recurses := true, apart := false }
def SankoffMoreSaid : Prop := sankoffMoreRow.holds Try.pinned (OpenSpec.ofChange sankoffMoreSpec)

/-- ITS FALSE NEIGHBOUR: 'it returns false'. Refute it at one input. -/
def sankoffMoreWrong : ChangeSpec := { name := "sankoffMore", fn := fun _ => fun
  | [d1, d2, d3, d4, d5] => { results := [.lit (.bool false)], args := [d1, d2, d3, d4, d5] }
  | _ => none }
def SankoffMoreWrongFalsely : Prop := sankoffMoreRow.holds Try.pinned (OpenSpec.ofChange sankoffMoreWrong)

/-- 'ablautlaw23.SankoffChecks': WHATEVER THE INPUT: true; the input reads as it did. -/
def sankoffChecksSpec : ChangeSpec := { name := "sankoffChecks", fn := fun _ => fun
  | [d] => { results := [.lit (.bool true)], args := [d] }
  | _ => none }
def sankoffChecksRow : OpenClaim := { program := "ytfalggfambgkeaa", sum := "26b6e500bd0429cc49ec186b7cecaa70b5a7b4272201a9c2876e00593efc4cb7", func := "ablaut/ablautlaw23.SankoffChecks", spec := "sankoffChecks", unfollowed := true, recurses := true, apart := false }
def SankoffChecksSaid : Prop := sankoffChecksRow.holds Try.pinned (OpenSpec.ofChange sankoffChecksSpec)

/-- ITS FALSE NEIGHBOUR: 'it returns false'. Refute it at one input. -/
def sankoffChecksWrong : ChangeSpec := { name := "sankoffChecks", fn := fun _ => fun
  | [d] => { results := [.lit (.bool false)], args := [d] }
  | _ => none }
def SankoffChecksWrongFalsely : Prop := sankoffChecksRow.holds Try.pinned (OpenSpec.ofChange sankoffChecksWrong)

/-- 'ablautlaw23.SankoffBests': WHATEVER THE INPUT: true; the input reads as it did. -/
def sankoffBestsSpec : ChangeSpec := { name := "sankoffBests", fn := fun _ => fun
  | [d] => { results := [.lit (.bool true)], args := [d] }
  | _ => none }
def sankoffBestsRow : OpenClaim := { program := "ytfalggfambgkeaa", sum := "26b6e500bd0429cc49ec186b7cecaa70b5a7b4272201a9c2876e00593efc4cb7", func := "ablaut/ablautlaw23.SankoffBests", spec := "sankoffBests", unfollowed := true, recurses := true, apart := false }
def SankoffBestsSaid : Prop := sankoffBestsRow.holds Try.pinned (OpenSpec.ofChange sankoffBestsSpec)

/-- ITS FALSE NEIGHBOUR: 'it returns false'. Refute it at one input. -/
def sankoffBestsWrong : ChangeSpec := { name := "sankoffBests", fn := fun _ => fun
  | [d] => { results := [.lit (.bool false)], args := [d] }
  | _ => none }
def SankoffBestsWrongFalsely : Prop := sankoffBestsRow.holds Try.pinned (OpenSpec.ofChange sankoffBestsWrong)

/-- 'ablautlaw23.SankoffLeast': WHATEVER THE INPUT: true; the input reads as it did. -/
def sankoffLeastSpec : ChangeSpec := { name := "sankoffLeast", fn := fun _ => fun
  | [d1, d2, d3, d4, d5] => { results := [.lit (.bool true)], args := [d1, d2, d3, d4, d5] }
  | _ => none }
def sankoffLeastRow : OpenClaim := { program := "ytfalggfambgkeaa", sum := "26b6e500bd0429cc49ec186b7cecaa70b5a7b4272201a9c2876e00593efc4cb7", func := "ablaut/ablautlaw23.SankoffLeast", spec := "sankoffLeast", unfollowed := true, recurses := true, apart := false }
def SankoffLeastSaid : Prop := sankoffLeastRow.holds Try.pinned (OpenSpec.ofChange sankoffLeastSpec)

/-- ITS FALSE NEIGHBOUR: 'it returns false'. Refute it at one input. -/
def sankoffLeastWrong : ChangeSpec := { name := "sankoffLeast", fn := fun _ => fun
  | [d1, d2, d3, d4, d5] => { results := [.lit (.bool false)], args := [d1, d2, d3, d4, d5] }
  | _ => none }
def SankoffLeastWrongFalsely : Prop := sankoffLeastRow.holds Try.pinned (OpenSpec.ofChange sankoffLeastWrong)

/-- 'ablautlaw23.SankoffOver': WHATEVER THE INPUT: true; the input reads as it did. -/
def sankoffOverSpec : ChangeSpec := { name := "sankoffOver", fn := fun _ => fun
  | [d1, d2] => { results := [.lit (.bool true)], args := [d1, d2] }
  | _ => none }
def sankoffOverRow : OpenClaim := { program := "ytfalggfambgkeaa", sum := "26b6e500bd0429cc49ec186b7cecaa70b5a7b4272201a9c2876e00593efc4cb7", func := "ablaut/ablautlaw23.SankoffOver", spec := "sankoffOver", unfollowed := true, recurses := true, apart := false }
def SankoffOverSaid : Prop := sankoffOverRow.holds Try.pinned (OpenSpec.ofChange sankoffOverSpec)

/-- ITS FALSE NEIGHBOUR: 'it returns false'. Refute it at one input. -/
def sankoffOverWrong : ChangeSpec := { name := "sankoffOver", fn := fun _ => fun
  | [d1, d2] => { results := [.lit (.bool false)], args := [d1, d2] }
  | _ => none }
def SankoffOverWrongFalsely : Prop := sankoffOverRow.holds Try.pinned (OpenSpec.ofChange sankoffOverWrong)

/-- 'ablautlaw23.SankoffGreat': WHATEVER THE INPUT: true; the input reads as it did. -/
def sankoffGreatSpec : ChangeSpec := { name := "sankoffGreat", fn := fun _ => fun
  | [d1, d2] => { results := [.lit (.bool true)], args := [d1, d2] }
  | _ => none }
def sankoffGreatRow : OpenClaim := { program := "ytfalggfambgkeaa", sum := "26b6e500bd0429cc49ec186b7cecaa70b5a7b4272201a9c2876e00593efc4cb7", func := "ablaut/ablautlaw23.SankoffGreat", spec := "sankoffGreat", unfollowed := true, recurses := true, apart := false }
def SankoffGreatSaid : Prop := sankoffGreatRow.holds Try.pinned (OpenSpec.ofChange sankoffGreatSpec)

/-- ITS FALSE NEIGHBOUR: 'it returns false'. Refute it at one input. -/
def sankoffGreatWrong : ChangeSpec := { name := "sankoffGreat", fn := fun _ => fun
  | [d1, d2] => { results := [.lit (.bool false)], args := [d1, d2] }
  | _ => none }
def SankoffGreatWrongFalsely : Prop := sankoffGreatRow.holds Try.pinned (OpenSpec.ofChange sankoffGreatWrong)

/-- 'ablautlaw23.SankoffCosts': WHATEVER THE INPUT: true; the input reads as it did. -/
def sankoffCostsSpec : ChangeSpec := { name := "sankoffCosts", fn := fun _ => fun
  | [d] => { results := [.lit (.bool true)], args := [d] }
  | _ => none }
def sankoffCostsRow : OpenClaim := { program := "ytfalggfambgkeaa", sum := "26b6e500bd0429cc49ec186b7cecaa70b5a7b4272201a9c2876e00593efc4cb7", func := "ablaut/ablautlaw23.SankoffCosts", spec := "sankoffCosts", unfollowed := true, recurses := true, apart := false }
def SankoffCostsSaid : Prop := sankoffCostsRow.holds Try.pinned (OpenSpec.ofChange sankoffCostsSpec)

/-- ITS FALSE NEIGHBOUR: 'it returns false'. Refute it at one input. -/
def sankoffCostsWrong : ChangeSpec := { name := "sankoffCosts", fn := fun _ => fun
  | [d] => { results := [.lit (.bool false)], args := [d] }
  | _ => none }
def SankoffCostsWrongFalsely : Prop := sankoffCostsRow.holds Try.pinned (OpenSpec.ofChange sankoffCostsWrong)

/-- 'ablautlaw23.SankoffAll': WHATEVER THE INPUT: true; the input reads as it did. -/
def sankoffAllSpec : ChangeSpec := { name := "sankoffAll", fn := fun _ => fun
  | [d1, d2, d3, d4] => { results := [.lit (.bool true)], args := [d1, d2, d3, d4] }
  | _ => none }
def sankoffAllRow : OpenClaim := { program := "ytfalggfambgkeaa", sum := "26b6e500bd0429cc49ec186b7cecaa70b5a7b4272201a9c2876e00593efc4cb7", func := "ablaut/ablautlaw23.SankoffAll", spec := "sankoffAll", unfollowed := true, recurses := true, apart := false }
def SankoffAllSaid : Prop := sankoffAllRow.holds Try.pinned (OpenSpec.ofChange sankoffAllSpec)

/-- ITS FALSE NEIGHBOUR: 'it returns false'. Refute it at one input. -/
def sankoffAllWrong : ChangeSpec := { name := "sankoffAll", fn := fun _ => fun
  | [d1, d2, d3, d4] => { results := [.lit (.bool false)], args := [d1, d2, d3, d4] }
  | _ => none }
def SankoffAllWrongFalsely : Prop := sankoffAllRow.holds Try.pinned (OpenSpec.ofChange sankoffAllWrong)

/-- 'ablautlaw23.SankoffMins': WHATEVER THE INPUT: true; the input reads as it did. -/
def sankoffMinsSpec : ChangeSpec := { name := "sankoffMins", fn := fun _ => fun
  | [d] => { results := [.lit (.bool true)], args := [d] }
  | _ => none }
def sankoffMinsRow : OpenClaim := { program := "ytfalggfambgkeaa", sum := "26b6e500bd0429cc49ec186b7cecaa70b5a7b4272201a9c2876e00593efc4cb7", func := "ablaut/ablautlaw23.SankoffMins", spec := "sankoffMins", unfollowed := true, recurses := true, apart := false }
def SankoffMinsSaid : Prop := sankoffMinsRow.holds Try.pinned (OpenSpec.ofChange sankoffMinsSpec)

/-- ITS FALSE NEIGHBOUR: 'it returns false'. Refute it at one input. -/
def sankoffMinsWrong : ChangeSpec := { name := "sankoffMins", fn := fun _ => fun
  | [d] => { results := [.lit (.bool false)], args := [d] }
  | _ => none }
def SankoffMinsWrongFalsely : Prop := sankoffMinsRow.holds Try.pinned (OpenSpec.ofChange sankoffMinsWrong)

/- THE SECOND FORM. 'bulk': how many values and letters a reading holds, each counted each time it is reached (what is shared counts as often as it is met; a slice's spare places count too). A statement '..UptoSaid' is the law's where the arguments, and the package variables that the reading takes, are together of bulk at most 1048576: NARROWER than '..Said'. Prove '..Said' where nothing that the law and all that it calls make is longer than what came in: it says more and counts as full. Else prove '..UptoSaid'. A law counts once. -/
mutual
def uptoBulk {H : Type} : DataW H → Nat
  | .lit (.string bytes) => bytes.length + 1
  | .lit _ => 1
  | .nil => 1
  | .ptr d => uptoBulk d + 1
  | .slice elems spare => uptoBulkAll elems + uptoBulkAll spare + 1
  | .agg parts => uptoBulkAll parts + 1
  | .iface _ d => uptoBulk d + 1
  | .map entries => uptoBulkEntries entries + 1
  | .held _ => 1
def uptoBulkAll {H : Type} : List (DataW H) → Nat
  | [] => 0
  | d :: r => uptoBulk d + uptoBulkAll r
def uptoBulkEntries {H : Type} : List (Lit × DataW H) → Nat
  | [] => 0
  | x :: r => uptoBulkEntry x + uptoBulkEntries r
def uptoBulkEntry {H : Type} : Lit × DataW H → Nat
  | (.string bytes, d) => bytes.length + uptoBulk d + 1
  | (_, d) => uptoBulk d + 1
 end
def uptoSmall : (H : Type) → List (DataW H) → Bool := fun _ ds => decide (uptoBulkAll ds ≤ 1048576)
def OpenSpec.upto (s : _root_.Go.ChangeSpec) : _root_.Go.OpenSpec := { _root_.Go.OpenSpec.ofChange s with cond := some uptoSmall }

/-- 'ablautlaw23.SankoffSteps', WHERE WHAT IT READS IS OF BULK AT MOST 1048576: true; the input reads as it did. -/
def sankoffStepsUptoRow : OpenClaim := { program := "ytfalggfambgkeaa", sum := "26b6e500bd0429cc49ec186b7cecaa70b5a7b4272201a9c2876e00593efc4cb7", func := "ablaut/ablautlaw23.SankoffSteps", spec := "sankoffSteps", unfollowed := true, recurses := true, apart := false, narrowed := true }
def SankoffStepsUptoSaid : Prop := sankoffStepsUptoRow.holds Try.pinned (OpenSpec.upto sankoffStepsSpec)

/-- 'ablautlaw23.SankoffLess', WHERE WHAT IT READS IS OF BULK AT MOST 1048576: true; the input reads as it did. -/
def sankoffLessUptoRow : OpenClaim := { program := "ytfalggfambgkeaa", sum := "26b6e500bd0429cc49ec186b7cecaa70b5a7b4272201a9c2876e00593efc4cb7", func := "ablaut/ablautlaw23.SankoffLess", spec := "sankoffLess", unfollowed := true, recurses := true, apart := false, narrowed := true }
def SankoffLessUptoSaid : Prop := sankoffLessUptoRow.holds Try.pinned (OpenSpec.upto sankoffLessSpec)

/-- 'ablautlaw23.SankoffMore', WHERE WHAT IT READS IS OF BULK AT MOST 1048576: true; the input reads as it did. -/
def sankoffMoreUptoRow : OpenClaim := { program := "ytfalggfambgkeaa", sum := "26b6e500bd0429cc49ec186b7cecaa70b5a7b4272201a9c2876e00593efc4cb7", func := "ablaut/ablautlaw23.SankoffMore", spec := "sankoffMore", unfollowed := true, recurses := true, apart := false, narrowed := true }
def SankoffMoreUptoSaid : Prop := sankoffMoreUptoRow.holds Try.pinned (OpenSpec.upto sankoffMoreSpec)

/-- 'ablautlaw23.SankoffChecks', WHERE WHAT IT READS IS OF BULK AT MOST 1048576: true; the input reads as it did. -/
def sankoffChecksUptoRow : OpenClaim := { program := "ytfalggfambgkeaa", sum := "26b6e500bd0429cc49ec186b7cecaa70b5a7b4272201a9c2876e00593efc4cb7", func := "ablaut/ablautlaw23.SankoffChecks", spec := "sankoffChecks", unfollowed := true, recurses := true, apart := false, narrowed := true }
def SankoffChecksUptoSaid : Prop := sankoffChecksUptoRow.holds Try.pinned (OpenSpec.upto sankoffChecksSpec)

/-- 'ablautlaw23.SankoffBests', WHERE WHAT IT READS IS OF BULK AT MOST 1048576: true; the input reads as it did. -/
def sankoffBestsUptoRow : OpenClaim := { program := "ytfalggfambgkeaa", sum := "26b6e500bd0429cc49ec186b7cecaa70b5a7b4272201a9c2876e00593efc4cb7", func := "ablaut/ablautlaw23.SankoffBests", spec := "sankoffBests", unfollowed := true, recurses := true, apart := false, narrowed := true }
def SankoffBestsUptoSaid : Prop := sankoffBestsUptoRow.holds Try.pinned (OpenSpec.upto sankoffBestsSpec)

/-- 'ablautlaw23.SankoffLeast', WHERE WHAT IT READS IS OF BULK AT MOST 1048576: true; the input reads as it did. -/
def sankoffLeastUptoRow : OpenClaim := { program := "ytfalggfambgkeaa", sum := "26b6e500bd0429cc49ec186b7cecaa70b5a7b4272201a9c2876e00593efc4cb7", func := "ablaut/ablautlaw23.SankoffLeast", spec := "sankoffLeast", unfollowed := true, recurses := true, apart := false, narrowed := true }
def SankoffLeastUptoSaid : Prop := sankoffLeastUptoRow.holds Try.pinned (OpenSpec.upto sankoffLeastSpec)

/-- 'ablautlaw23.SankoffOver', WHERE WHAT IT READS IS OF BULK AT MOST 1048576: true; the input reads as it did. -/
def sankoffOverUptoRow : OpenClaim := { program := "ytfalggfambgkeaa", sum := "26b6e500bd0429cc49ec186b7cecaa70b5a7b4272201a9c2876e00593efc4cb7", func := "ablaut/ablautlaw23.SankoffOver", spec := "sankoffOver", unfollowed := true, recurses := true, apart := false, narrowed := true }
def SankoffOverUptoSaid : Prop := sankoffOverUptoRow.holds Try.pinned (OpenSpec.upto sankoffOverSpec)

/-- 'ablautlaw23.SankoffGreat', WHERE WHAT IT READS IS OF BULK AT MOST 1048576: true; the input reads as it did. -/
def sankoffGreatUptoRow : OpenClaim := { program := "ytfalggfambgkeaa", sum := "26b6e500bd0429cc49ec186b7cecaa70b5a7b4272201a9c2876e00593efc4cb7", func := "ablaut/ablautlaw23.SankoffGreat", spec := "sankoffGreat", unfollowed := true, recurses := true, apart := false, narrowed := true }
def SankoffGreatUptoSaid : Prop := sankoffGreatUptoRow.holds Try.pinned (OpenSpec.upto sankoffGreatSpec)

/-- 'ablautlaw23.SankoffCosts', WHERE WHAT IT READS IS OF BULK AT MOST 1048576: true; the input reads as it did. -/
def sankoffCostsUptoRow : OpenClaim := { program := "ytfalggfambgkeaa", sum := "26b6e500bd0429cc49ec186b7cecaa70b5a7b4272201a9c2876e00593efc4cb7", func := "ablaut/ablautlaw23.SankoffCosts", spec := "sankoffCosts", unfollowed := true, recurses := true, apart := false, narrowed := true }
def SankoffCostsUptoSaid : Prop := sankoffCostsUptoRow.holds Try.pinned (OpenSpec.upto sankoffCostsSpec)

/-- 'ablautlaw23.SankoffAll', WHERE WHAT IT READS IS OF BULK AT MOST 1048576: true; the input reads as it did. -/
def sankoffAllUptoRow : OpenClaim := { program := "ytfalggfambgkeaa", sum := "26b6e500bd0429cc49ec186b7cecaa70b5a7b4272201a9c2876e00593efc4cb7", func := "ablaut/ablautlaw23.SankoffAll", spec := "sankoffAll", unfollowed := true, recurses := true, apart := false, narrowed := true }
def SankoffAllUptoSaid : Prop := sankoffAllUptoRow.holds Try.pinned (OpenSpec.upto sankoffAllSpec)

/-- 'ablautlaw23.SankoffMins', WHERE WHAT IT READS IS OF BULK AT MOST 1048576: true; the input reads as it did. -/
def sankoffMinsUptoRow : OpenClaim := { program := "ytfalggfambgkeaa", sum := "26b6e500bd0429cc49ec186b7cecaa70b5a7b4272201a9c2876e00593efc4cb7", func := "ablaut/ablautlaw23.SankoffMins", spec := "sankoffMins", unfollowed := true, recurses := true, apart := false, narrowed := true }
def SankoffMinsUptoSaid : Prop := sankoffMinsUptoRow.holds Try.pinned (OpenSpec.upto sankoffMinsSpec)

end Rows
end Go.Proofs.Ytfalggfambgkeaa
