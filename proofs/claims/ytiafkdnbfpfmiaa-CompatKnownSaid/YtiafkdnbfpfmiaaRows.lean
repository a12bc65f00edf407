/-
  No cell of these rows narrows 'for every input' (looked for: loops, veiled, ifaces, maps, wideKeys, modest, calm, conditions, laid).
  DERIVED. THE GIVEN ROWS OF THIS SEAT. 9 by the template 'for every input the law returns true; each argument reads behind the call as it read before'; 0 by the template 'total and deterministic' (their statements: YtiafkdnbfpfmiaaTotals.lean).
  GIVEN WITH THE SEED: the statements are not yours to turn. If you find one false, say at which input.
  Laid BY PROGRAM, IN A SANDBOX (cutbox-rows.mjs): the forced cells as the released guide's own fill.sh prints them over the translation 7fe7282792a84a27… (all of the seat's roots in one cut). By AI agents, Wed Nov 11 2026. No macro, syntax, notation, axiom, sorry.
-/
import Derived.Test.YtiafkdnbfpfmiaaChecked
import GoSem.Claim
import GoSem.ClaimJoined
import GoSem.ClaimMapViews
import Derived.JoinedTies
import Derived.KernelRfl
namespace Go.Proofs.Ytiafkdnbfpfmiaa
/- THE CELL 'sum', in the pinned program and in every row, IS THE sha256 OF THE DUMP (.gsa) THAT YtiafkdnbfpfmiaaProg.lean LOADS. Nothing in Lean hashes anything: it is a label: what it is worth is what the hold of that sum in a sandbox is worth. -/
noncomputable def Try.pinned : Pinned := { name := "ytiafkdnbfpfmiaa", sum := "7fe7282792a84a276396c3098df7bd448333799e836f43fc4baa702eb2162afd", checked := Try.checked }
namespace Rows
def none {H : Type} : Left H := { results := [], args := [] }

/-- 'ablautlaw21.CompatTwo': WHATEVER THE INPUT: true; the input reads as it did. -/
def compatTwoSpec : ChangeSpec := { name := "compatTwo", fn := fun _ => fun
  | [d1, d2] => { results := [.lit (.bool true)], args := [d1, d2] }
  | _ => none }
def compatTwoRow : OpenClaim := { program := "ytiafkdnbfpfmiaa", sum := "7fe7282792a84a276396c3098df7bd448333799e836f43fc4baa702eb2162afd", func := "ablaut/ablautlaw21.CompatTwo", spec := "compatTwo", unfollowed := true, recurses := true, apart := false }
def CompatTwoSaid : Prop := compatTwoRow.holds Try.pinned (OpenSpec.ofChange compatTwoSpec)

/-- ITS FALSE NEIGHBOUR: 'it returns false'. Refute it at one input. -/
def compatTwoWrong : ChangeSpec := { name := "compatTwo", fn := fun _ => fun
  | [d1, d2] => { results := [.lit (.bool false)], args := [d1, d2] }
  | _ => none }
def CompatTwoWrongFalsely : Prop := compatTwoRow.holds Try.pinned (OpenSpec.ofChange compatTwoWrong)

/-- 'ablautlaw21.CompatLists': WHATEVER THE INPUT: true; the input reads as it did. -/
def compatListsSpec : ChangeSpec := { name := "compatLists", fn := fun _ => fun
  | [d] => { results := [.lit (.bool true)], args := [d] }
  | _ => none }
def compatListsRow : OpenClaim := { program := "ytiafkdnbfpfmiaa", sum := "7fe7282792a84a276396c3098df7bd448333799e836f43fc4baa702eb2162afd", func := "ablaut/ablautlaw21.CompatLists", spec := "compatLists", unfollowed := true, recurses := true, apart := false }
def CompatListsSaid : Prop := compatListsRow.holds Try.pinned (OpenSpec.ofChange compatListsSpec)

/-- ITS FALSE NEIGHBOUR: 'it returns false'. Refute it at one input. -/
def compatListsWrong : ChangeSpec := { name := "compatLists", fn := fun _ => fun
  | [d] => { results := [.lit (.bool false)], args := [d] }
  | _ => none }
def CompatListsWrongFalsely : Prop := compatListsRow.holds Try.pinned (OpenSpec.ofChange compatListsWrong)

/-- 'ablautlaw21.CompatPatterns': WHATEVER THE INPUT: true; the input reads as it did. -/
def compatPatternsSpec : ChangeSpec := { name := "compatPatterns", fn := fun _ => fun
  | [d1, d2, d3] => { results := [.lit (.bool true)], args := [d1, d2, d3] }
  | _ => none }
def compatPatternsRow : OpenClaim := { program := "ytiafkdnbfpfmiaa", sum := "7fe7282792a84a276396c3098df7bd448333799e836f43fc4baa702eb2162afd", func := "ablaut/ablautlaw21.CompatPatterns", spec := "compatPatterns", unfollowed := true, recurses := true, apart := false }
def CompatPatternsSaid : Prop := compatPatternsRow.holds Try.pinned (OpenSpec.ofChange compatPatternsSpec)

/-- ITS FALSE NEIGHBOUR: 'it returns false'. Refute it at one input. -/
def compatPatternsWrong : ChangeSpec := { name := "compatPatterns", fn := fun _ => fun
  | [d1, d2, d3] => { results := [.lit (.bool false)], args := [d1, d2, d3] }
  | _ => none }
def CompatPatternsWrongFalsely : Prop := compatPatternsRow.holds Try.pinned (OpenSpec.ofChange compatPatternsWrong)

/-- 'ablautlaw21.CompatJoins': WHATEVER THE INPUT: true; the input reads as it did. -/
def compatJoinsSpec : ChangeSpec := { name := "compatJoins", fn := fun _ => fun
  | [d1, d2, d3] => { results := [.lit (.bool true)], args := [d1, d2, d3] }
  | _ => none }
def compatJoinsRow : OpenClaim := { program := "ytiafkdnbfpfmiaa", sum := "7fe7282792a84a276396c3098df7bd448333799e836f43fc4baa702eb2162afd", func := "ablaut/ablautlaw21.CompatJoins", spec := "compatJoins", unfollowed := true, recurses := true, apart := false }
def CompatJoinsSaid : Prop := compatJoinsRow.holds Try.pinned (OpenSpec.ofChange compatJoinsSpec)

/-- ITS FALSE NEIGHBOUR: 'it returns false'. Refute it at one input. -/
def compatJoinsWrong : ChangeSpec := { name := "compatJoins", fn := fun _ => fun
  | [d1, d2, d3] => { results := [.lit (.bool false)], args := [d1, d2, d3] }
  | _ => none }
def CompatJoinsWrongFalsely : Prop := compatJoinsRow.holds Try.pinned (OpenSpec.ofChange compatJoinsWrong)

/-- 'ablautlaw21.CompatAssigns': WHATEVER THE INPUT: true; the input reads as it did. -/
def compatAssignsSpec : ChangeSpec := { name := "compatAssigns", fn := fun _ => fun
  | [d] => { results := [.lit (.bool true)], args := [d] }
  | _ => none }
def compatAssignsRow : OpenClaim := { program := "ytiafkdnbfpfmiaa", sum := "7fe7282792a84a276396c3098df7bd448333799e836f43fc4baa702eb2162afd", func := "ablaut/ablautlaw21.CompatAssigns", spec := "compatAssigns", unfollowed := true, recurses := true, apart := false }
def CompatAssignsSaid : Prop := compatAssignsRow.holds Try.pinned (OpenSpec.ofChange compatAssignsSpec)

/-- ITS FALSE NEIGHBOUR: 'it returns false'. Refute it at one input. -/
def compatAssignsWrong : ChangeSpec := { name := "compatAssigns", fn := fun _ => fun
  | [d] => { results := [.lit (.bool false)], args := [d] }
  | _ => none }
def CompatAssignsWrongFalsely : Prop := compatAssignsRow.holds Try.pinned (OpenSpec.ofChange compatAssignsWrong)

/-- 'ablautlaw21.CompatSums': WHATEVER THE INPUT: true; the input reads as it did. -/
def compatSumsSpec : ChangeSpec := { name := "compatSums", fn := fun _ => fun
  | [d] => { results := [.lit (.bool true)], args := [d] }
  | _ => none }
def compatSumsRow : OpenClaim := { program := "ytiafkdnbfpfmiaa", sum := "7fe7282792a84a276396c3098df7bd448333799e836f43fc4baa702eb2162afd", func := "ablaut/ablautlaw21.CompatSums", spec := "compatSums", unfollowed := true, recurses := true, apart := false }
def CompatSumsSaid : Prop := compatSumsRow.holds Try.pinned (OpenSpec.ofChange compatSumsSpec)

/-- ITS FALSE NEIGHBOUR: 'it returns false'. Refute it at one input. -/
def compatSumsWrong : ChangeSpec := { name := "compatSums", fn := fun _ => fun
  | [d] => { results := [.lit (.bool false)], args := [d] }
  | _ => none }
def CompatSumsWrongFalsely : Prop := compatSumsRow.holds Try.pinned (OpenSpec.ofChange compatSumsWrong)

/-- 'ablautlaw21.CompatPredicts': WHATEVER THE INPUT: true; the input reads as it did. -/
def compatPredictsSpec : ChangeSpec := { name := "compatPredicts", fn := fun _ => fun
  | [d1, d2] => { results := [.lit (.bool true)], args := [d1, d2] }
  | _ => none }
def compatPredictsRow : OpenClaim := { program := "ytiafkdnbfpfmiaa", sum := "7fe7282792a84a276396c3098df7bd448333799e836f43fc4baa702eb2162afd", func := "ablaut/ablautlaw21.CompatPredicts", spec := "compatPredicts", unfollowed := true, recurses := true, apart := false }
def CompatPredictsSaid : Prop := compatPredictsRow.holds Try.pinned (OpenSpec.ofChange compatPredictsSpec)

/-- ITS FALSE NEIGHBOUR: 'it returns false'. Refute it at one input. -/
def compatPredictsWrong : ChangeSpec := { name := "compatPredicts", fn := fun _ => fun
  | [d1, d2] => { results := [.lit (.bool false)], args := [d1, d2] }
  | _ => none }
def CompatPredictsWrongFalsely : Prop := compatPredictsRow.holds Try.pinned (OpenSpec.ofChange compatPredictsWrong)

/-- 'ablautlaw21.CompatTurns': WHATEVER THE INPUT: true; the input reads as it did. -/
def compatTurnsSpec : ChangeSpec := { name := "compatTurns", fn := fun _ => fun
  | [d] => { results := [.lit (.bool true)], args := [d] }
  | _ => none }
def compatTurnsRow : OpenClaim := { program := "ytiafkdnbfpfmiaa", sum := "7fe7282792a84a276396c3098df7bd448333799e836f43fc4baa702eb2162afd", func := "ablaut/ablautlaw21.CompatTurns", spec := "compatTurns", unfollowed := true, recurses := true, apart := false }
def CompatTurnsSaid : Prop := compatTurnsRow.holds Try.pinned (OpenSpec.ofChange compatTurnsSpec)

/-- ITS FALSE NEIGHBOUR: 'it returns false'. Refute it at one input. -/
def compatTurnsWrong : ChangeSpec := { name := "compatTurns", fn := fun _ => fun
  | [d] => { results := [.lit (.bool false)], args := [d] }
  | _ => none }
def CompatTurnsWrongFalsely : Prop := compatTurnsRow.holds Try.pinned (OpenSpec.ofChange compatTurnsWrong)

/-- 'ablautlaw21.CompatKnown': WHATEVER THE INPUT: true; the input reads as it did. -/
def compatKnownSpec : ChangeSpec := { name := "compatKnown", fn := fun _ => fun
  | [] => { results := [.lit (.bool true)], args := [] }
  | _ => none }
def compatKnownRow : OpenClaim := { program := "ytiafkdnbfpfmiaa", sum := "7fe7282792a84a276396c3098df7bd448333799e836f43fc4baa702eb2162afd", func := "ablaut/ablautlaw21.CompatKnown", spec := "compatKnown", unfollowed := true, recurses := true, apart := false }
def CompatKnownSaid : Prop := compatKnownRow.holds Try.pinned (OpenSpec.ofChange compatKnownSpec)

/-- ITS FALSE NEIGHBOUR: 'it returns false'. Refute it at one input. -/
def compatKnownWrong : ChangeSpec := { name := "compatKnown", fn := fun _ => fun
  | [] => { results := [.lit (.bool false)], args := [] }
  | _ => none }
def CompatKnownWrongFalsely : Prop := compatKnownRow.holds Try.pinned (OpenSpec.ofChange compatKnownWrong)

/- THE SECOND FORM. 'bulk': how many values and letters a reading holds, each counted each time it is reached (what is shared counts as often as it is met; a slice's spare places count too). A statement '..UptoSaid' is the law's where the arguments, and the package variables that the reading takes, are together of bulk at most 1048576: NARROWER than '..Said'. Prove '..Said' where nothing that the law and all that it calls make is longer than what came in: it says more and counts as full. Else prove '..UptoSaid'. A law counts once. -/
mutual
def uptoBulk {H : Type} : DataW H → Nat
  | .lit (.string bytes) => bytes.length + 1
  | .lit _ => 1
  | .nil => 1
  | .ptr d => uptoBulk d + 1
  | .slice elems spare => uptoBulkAll elems + uptoBulkAll spare + 1
  | .agg parts => uptoBulkAll parts + 1
  | .iface _ d => uptoBulk d + 1
  | .map entries => uptoBulkEntries entries + 1
  | .held _ => 1
def uptoBulkAll {H : Type} : List (DataW H) → Nat
  | [] => 0
  | d :: r => uptoBulk d + uptoBulkAll r
def uptoBulkEntries {H : Type} : List (Lit × DataW H) → Nat
  | [] => 0
  | x :: r => uptoBulkEntry x + uptoBulkEntries r
def uptoBulkEntry {H : Type} : Lit × DataW H → Nat
  | (.string bytes, d) => bytes.length + uptoBulk d + 1
  | (_, d) => uptoBulk d + 1
 end
def uptoSmall : (H : Type) → List (DataW H) → Bool := fun _ ds => decide (uptoBulkAll ds ≤ 1048576)
def OpenSpec.upto (s : _root_.Go.ChangeSpec) : _root_.Go.OpenSpec := { _root_.Go.OpenSpec.ofChange s with cond := some uptoSmall }

/-- 'ablautlaw21.CompatTwo', WHERE WHAT IT READS IS OF BULK AT MOST 1048576: true; the input reads as it did. -/
def compatTwoUptoRow : OpenClaim := { program := "ytiafkdnbfpfmiaa", sum := "7fe7282792a84a276396c3098df7bd448333799e836f43fc4baa702eb2162afd", func := "ablaut/ablautlaw21.CompatTwo", spec := "compatTwo", unfollowed := true, recurses := true, apart := false, narrowed := true }
def CompatTwoUptoSaid : Prop := compatTwoUptoRow.holds Try.pinned (OpenSpec.upto compatTwoSpec)

/-- 'ablautlaw21.CompatLists', WHERE WHAT IT READS IS OF BULK AT MOST 1048576: true; the input reads as it did. -/
def compatListsUptoRow : OpenClaim := { program := "ytiafkdnbfpfmiaa", sum := "7fe7282792a84a276396c3098df7bd448333799e836f43fc4baa702eb2162afd", func := "ablaut/ablautlaw21.CompatLists", spec := "compatLists", unfollowed := true, recurses := true, apart := false, narrowed := true }
def CompatListsUptoSaid : Prop := compatListsUptoRow.holds Try.pinned (OpenSpec.upto compatListsSpec)

/-- 'ablautlaw21.CompatPatterns', WHERE WHAT IT READS IS OF BULK AT MOST 1048576: true; the input reads as it did. -/
def compatPatternsUptoRow : OpenClaim := { program := "ytiafkdnbfpfmiaa", sum := "7fe7282792a84a276396c3098df7bd448333799e836f43fc4baa702eb2162afd", func := "ablaut/ablautlaw21.CompatPatterns", spec := "compatPatterns", unfollowed := true, recurses := true, apart := false, narrowed := true }
def CompatPatternsUptoSaid : Prop := compatPatternsUptoRow.holds Try.pinned (OpenSpec.upto compatPatternsSpec)

/-- 'ablautlaw21.CompatJoins', WHERE WHAT IT READS IS OF BULK AT MOST 1048576: true; the input reads as it did. -/
def compatJoinsUptoRow : OpenClaim := { program := "ytiafkdnbfpfmiaa", sum := "7fe7282792a84a276396c3098df7bd448333799e836f43fc4baa702eb2162afd", func := "ablaut/ablautlaw21.CompatJoins", spec := "compatJoins", unfollowed := true, recurses := true, apart := false, narrowed := true }
def CompatJoinsUptoSaid : Prop := compatJoinsUptoRow.holds Try.pinned (OpenSpec.upto compatJoinsSpec)

/-- 'ablautlaw21.CompatAssigns', WHERE WHAT IT READS IS OF BULK AT MOST 1048576: true; the input reads as it did. -/
def compatAssignsUptoRow : OpenClaim := { program := "ytiafkdnbfpfmiaa", sum := "7fe7282792a84a276396c3098df7bd448333799e836f43fc4baa702eb2162afd", func := "ablaut/ablautlaw21.CompatAssigns", spec := "compatAssigns", unfollowed := true, recurses := true, apart := false, narrowed := true }
def CompatAssignsUptoSaid : Prop := compatAssignsUptoRow.holds Try.pinned (OpenSpec.upto compatAssignsSpec)

/-- 'ablautlaw21.CompatSums', WHERE WHAT IT READS IS OF BULK AT MOST 1048576: true; the input reads as it did. -/
def compatSumsUptoRow : OpenClaim := { program := "ytiafkdnbfpfmiaa", sum := "7fe7282792a84a276396c3098df7bd448333799e836f43fc4baa702eb2162afd", func := "ablaut/ablautlaw21.CompatSums", spec := "compatSums", unfollowed := true, recurses := true, apart := false, narrowed := true }
def CompatSumsUptoSaid : Prop := compatSumsUptoRow.holds Try.pinned (OpenSpec.upto compatSumsSpec)

/-- 'ablautlaw21.CompatPredicts', WHERE WHAT IT READS IS OF BULK AT MOST 1048576: true; the input reads as it did. -/
def compatPredictsUptoRow : OpenClaim := { program := "ytiafkdnbfpfmiaa", sum := "7fe7282792a84a276396c3098df7bd448333799e836f43fc4baa702eb2162afd", func := "ablaut/ablautlaw21.CompatPredicts", spec := "compatPredicts", unfollowed := true, recurses := true, apart := false, narrowed := true }
def CompatPredictsUptoSaid : Prop := compatPredictsUptoRow.holds Try.pinned (OpenSpec.upto compatPredictsSpec)

/-- 'ablautlaw21.CompatTurns', WHERE WHAT IT READS IS OF BULK AT MOST 1048576: true; the input reads as it did. -/
def compatTurnsUptoRow : OpenClaim := { program := "ytiafkdnbfpfmiaa", sum := "7fe7282792a84a276396c3098df7bd448333799e836f43fc4baa702eb2162afd", func := "ablaut/ablautlaw21.CompatTurns", spec := "compatTurns", unfollowed := true, recurses := true, apart := false, narrowed := true }
def CompatTurnsUptoSaid : Prop := compatTurnsUptoRow.holds Try.pinned (OpenSpec.upto compatTurnsSpec)

/-- 'ablautlaw21.CompatKnown', WHERE WHAT IT READS IS OF BULK AT MOST 1048576: true; the input reads as it did. -/
def compatKnownUptoRow : OpenClaim := { program := "ytiafkdnbfpfmiaa", sum := "7fe7282792a84a276396c3098df7bd448333799e836f43fc4baa702eb2162afd", func := "ablaut/ablautlaw21.CompatKnown", spec := "compatKnown", unfollowed := true, recurses := true, apart := false, narrowed := true }
def CompatKnownUptoSaid : Prop := compatKnownUptoRow.holds Try.pinned (OpenSpec.upto compatKnownSpec)

end Rows
end Go.Proofs.Ytiafkdnbfpfmiaa
