/-
  No cell of these rows narrows 'for every input' (looked for: loops, veiled, ifaces, maps, wideKeys, modest, calm, conditions, laid).
  DERIVED. THE GIVEN ROWS OF THIS SEAT. 10 by the template 'for every input the law returns true; each argument reads behind the call as it read before'; 0 by the template 'total and deterministic' (their statements: YtiioldgdgfdjeaaTotals.lean).
  GIVEN WITH THE SEED: the statements are not yours to turn. If you find one false, say at which input.
  Laid BY PROGRAM, IN A SANDBOX (cutbox-rows.mjs): the forced cells as the released guide's own fill.sh prints them over the translation d460da7340630e9a… (all of the seat's roots in one cut). By AI agents, Wed Nov 11 2026. No macro, syntax, notation, axiom, sorry.
-/
import Derived.Test.YtiioldgdgfdjeaaChecked
import GoSem.Claim
import GoSem.ClaimJoined
import GoSem.ClaimMapViews
import Derived.JoinedTies
import Derived.KernelRfl
namespace Go.Proofs.Ytiioldgdgfdjeaa
/- THE CELL 'sum', in the pinned program and in every row, IS THE sha256 OF THE DUMP (.gsa) THAT YtiioldgdgfdjeaaProg.lean LOADS. Nothing in Lean hashes anything: it is a label: what it is worth is what the hold of that sum in a sandbox is worth. -/
noncomputable def Try.pinned : Pinned := { name := "ytiioldgdgfdjeaa", sum := "d460da7340630e9a4b5e929cd6aafd2ed7047325956591a05cf76762b64f1382", checked := Try.checked }
namespace Rows
def none {H : Type} : Left H := { results := [], args := [] }

/-- 'ablautlaw22.TreeKnown': WHATEVER THE INPUT: true; the input reads as it did. -/
def treeKnownSpec : ChangeSpec := { name := "treeKnown", fn := fun _ => fun
  | [] => { results := [.lit (.bool true)], args := [] }
  | _ => none }
def treeKnownRow : OpenClaim := { program := "ytiioldgdgfdjeaa", sum := "d460da7340630e9a4b5e929cd6aafd2ed7047325956591a05cf76762b64f1382", func := "ablaut/ablautlaw22.TreeKnown", spec := "treeKnown", inPlace := ["internal/abi.NoEscape", "internal/bytealg.MakeNoZero"], unfollowed := true, recurses := true, apart := false }
def TreeKnownSaid : Prop := treeKnownRow.holds Try.pinned (OpenSpec.ofChange treeKnownSpec)

/-- ITS FALSE NEIGHBOUR: 'it returns false'. Refute it at one input. -/
def treeKnownWrong : ChangeSpec := { name := "treeKnown", fn := fun _ => fun
  | [] => { results := [.lit (.bool false)], args := [] }
  | _ => none }
def TreeKnownWrongFalsely : Prop := treeKnownRow.holds Try.pinned (OpenSpec.ofChange treeKnownWrong)

/-- 'ablautlaw22.TreeTexts': WHATEVER THE INPUT: true; the input reads as it did. -/
def treeTextsSpec : ChangeSpec := { name := "treeTexts", fn := fun _ => fun
  | [d1, d2] => { results := [.lit (.bool true)], args := [d1, d2] }
  | _ => none }
def treeTextsRow : OpenClaim := { program := "ytiioldgdgfdjeaa", sum := "d460da7340630e9a4b5e929cd6aafd2ed7047325956591a05cf76762b64f1382", func := "ablaut/ablautlaw22.TreeTexts", spec := "treeTexts", inPlace := ["internal/abi.NoEscape"], unfollowed := true, recurses := true, apart := false }
def TreeTextsSaid : Prop := treeTextsRow.holds Try.pinned (OpenSpec.ofChange treeTextsSpec)

/-- ITS FALSE NEIGHBOUR: 'it returns false'. Refute it at one input. -/
def treeTextsWrong : ChangeSpec := { name := "treeTexts", fn := fun _ => fun
  | [d1, d2] => { results := [.lit (.bool false)], args := [d1, d2] }
  | _ => none }
def TreeTextsWrongFalsely : Prop := treeTextsRow.holds Try.pinned (OpenSpec.ofChange treeTextsWrong)

/-- 'ablautlaw22.TreePrunes': WHATEVER THE INPUT: true; the input reads as it did. -/
def treePrunesSpec : ChangeSpec := { name := "treePrunes", fn := fun _ => fun
  | [d1, d2] => { results := [.lit (.bool true)], args := [d1, d2] }
  | _ => none }
def treePrunesRow : OpenClaim := { program := "ytiioldgdgfdjeaa", sum := "d460da7340630e9a4b5e929cd6aafd2ed7047325956591a05cf76762b64f1382", func := "ablaut/ablautlaw22.TreePrunes", spec := "treePrunes", inPlace := ["internal/abi.NoEscape"], unfollowed := true, recurses := true, apart := false }
def TreePrunesSaid : Prop := treePrunesRow.holds Try.pinned (OpenSpec.ofChange treePrunesSpec)

/-- ITS FALSE NEIGHBOUR: 'it returns false'. Refute it at one input. -/
def treePrunesWrong : ChangeSpec := { name := "treePrunes", fn := fun _ => fun
  | [d1, d2] => { results := [.lit (.bool false)], args := [d1, d2] }
  | _ => none }
def TreePrunesWrongFalsely : Prop := treePrunesRow.holds Try.pinned (OpenSpec.ofChange treePrunesWrong)

/-- 'ablautlaw22.TreeCommons': WHATEVER THE INPUT: true; the input reads as it did. -/
def treeCommonsSpec : ChangeSpec := { name := "treeCommons", fn := fun _ => fun
  | [d1, d2, d3, d4] => { results := [.lit (.bool true)], args := [d1, d2, d3, d4] }
  | _ => none }
def treeCommonsRow : OpenClaim := { program := "ytiioldgdgfdjeaa", sum := "d460da7340630e9a4b5e929cd6aafd2ed7047325956591a05cf76762b64f1382", func := "ablaut/ablautlaw22.TreeCommons", spec := "treeCommons", inPlace := ["internal/abi.NoEscape"], unfollowed := true, recurses := true, apart := false }
def TreeCommonsSaid : Prop := treeCommonsRow.holds Try.pinned (OpenSpec.ofChange treeCommonsSpec)

/-- ITS FALSE NEIGHBOUR: 'it returns false'. Refute it at one input. -/
def treeCommonsWrong : ChangeSpec := { name := "treeCommons", fn := fun _ => fun
  | [d1, d2, d3, d4] => { results := [.lit (.bool false)], args := [d1, d2, d3, d4] }
  | _ => none }
def TreeCommonsWrongFalsely : Prop := treeCommonsRow.holds Try.pinned (OpenSpec.ofChange treeCommonsWrong)

/-- 'ablautlaw22.TreeClades': WHATEVER THE INPUT: true; the input reads as it did. -/
def treeCladesSpec : ChangeSpec := { name := "treeClades", fn := fun _ => fun
  | [d] => { results := [.lit (.bool true)], args := [d] }
  | _ => none }
def treeCladesRow : OpenClaim := { program := "ytiioldgdgfdjeaa", sum := "d460da7340630e9a4b5e929cd6aafd2ed7047325956591a05cf76762b64f1382", func := "ablaut/ablautlaw22.TreeClades", spec := "treeClades", inPlace := ["internal/abi.NoEscape"], unfollowed := true, recurses := true, apart := false }
def TreeCladesSaid : Prop := treeCladesRow.holds Try.pinned (OpenSpec.ofChange treeCladesSpec)

/-- ITS FALSE NEIGHBOUR: 'it returns false'. Refute it at one input. -/
def treeCladesWrong : ChangeSpec := { name := "treeClades", fn := fun _ => fun
  | [d] => { results := [.lit (.bool false)], args := [d] }
  | _ => none }
def TreeCladesWrongFalsely : Prop := treeCladesRow.holds Try.pinned (OpenSpec.ofChange treeCladesWrong)

/-- 'ablautlaw22.TreeWays': WHATEVER THE INPUT: true; the input reads as it did. -/
def treeWaysSpec : ChangeSpec := { name := "treeWays", fn := fun _ => fun
  | [d1, d2, d3] => { results := [.lit (.bool true)], args := [d1, d2, d3] }
  | _ => none }
def treeWaysRow : OpenClaim := { program := "ytiioldgdgfdjeaa", sum := "d460da7340630e9a4b5e929cd6aafd2ed7047325956591a05cf76762b64f1382", func := "ablaut/ablautlaw22.TreeWays", spec := "treeWays", inPlace := ["internal/abi.NoEscape"], unfollowed := true, recurses := true, apart := false }
def TreeWaysSaid : Prop := treeWaysRow.holds Try.pinned (OpenSpec.ofChange treeWaysSpec)

/-- ITS FALSE NEIGHBOUR: 'it returns false'. Refute it at one input. -/
def treeWaysWrong : ChangeSpec := { name := "treeWays", fn := fun _ => fun
  | [d1, d2, d3] => { results := [.lit (.bool false)], args := [d1, d2, d3] }
  | _ => none }
def TreeWaysWrongFalsely : Prop := treeWaysRow.holds Try.pinned (OpenSpec.ofChange treeWaysWrong)

/-- 'ablautlaw22.TreeNodes': WHATEVER THE INPUT: true; the input reads as it did. -/
def treeNodesSpec : ChangeSpec := { name := "treeNodes", fn := fun _ => fun
  | [d1, d2] => { results := [.lit (.bool true)], args := [d1, d2] }
  | _ => none }
def treeNodesRow : OpenClaim := { program := "ytiioldgdgfdjeaa", sum := "d460da7340630e9a4b5e929cd6aafd2ed7047325956591a05cf76762b64f1382", func := "ablaut/ablautlaw22.TreeNodes", spec := "treeNodes", inPlace := ["internal/abi.NoEscape"], unfollowed := true, recurses := true, apart := false }
def TreeNodesSaid : Prop := treeNodesRow.holds Try.pinned (OpenSpec.ofChange treeNodesSpec)

/-- ITS FALSE NEIGHBOUR: 'it returns false'. Refute it at one input. -/
def treeNodesWrong : ChangeSpec := { name := "treeNodes", fn := fun _ => fun
  | [d1, d2] => { results := [.lit (.bool false)], args := [d1, d2] }
  | _ => none }
def TreeNodesWrongFalsely : Prop := treeNodesRow.holds Try.pinned (OpenSpec.ofChange treeNodesWrong)

/-- 'ablautlaw22.TreeCommon': WHATEVER THE INPUT: true; the input reads as it did. -/
def treeCommonSpec : ChangeSpec := { name := "treeCommon", fn := fun _ => fun
  | [d1, d2, d3, d4] => { results := [.lit (.bool true)], args := [d1, d2, d3, d4] }
  | _ => none }
def treeCommonRow : OpenClaim := { program := "ytiioldgdgfdjeaa", sum := "d460da7340630e9a4b5e929cd6aafd2ed7047325956591a05cf76762b64f1382", func := "ablaut/ablautlaw22.TreeCommon", spec := "treeCommon", inPlace := ["internal/abi.NoEscape"], unfollowed := true, recurses := true, apart := false }
def TreeCommonSaid : Prop := treeCommonRow.holds Try.pinned (OpenSpec.ofChange treeCommonSpec)

/-- ITS FALSE NEIGHBOUR: 'it returns false'. Refute it at one input. -/
def treeCommonWrong : ChangeSpec := { name := "treeCommon", fn := fun _ => fun
  | [d1, d2, d3, d4] => { results := [.lit (.bool false)], args := [d1, d2, d3, d4] }
  | _ => none }
def TreeCommonWrongFalsely : Prop := treeCommonRow.holds Try.pinned (OpenSpec.ofChange treeCommonWrong)

/-- 'ablautlaw22.TreeBack': WHATEVER THE INPUT: true; the input reads as it did. -/
def treeBackSpec : ChangeSpec := { name := "treeBack", fn := fun _ => fun
  | [d1, d2] => { results := [.lit (.bool true)], args := [d1, d2] }
  | _ => none }
def treeBackRow : OpenClaim := { program := "ytiioldgdgfdjeaa", sum := "d460da7340630e9a4b5e929cd6aafd2ed7047325956591a05cf76762b64f1382", func := "ablaut/ablautlaw22.TreeBack", spec := "treeBack", inPlace := ["internal/abi.NoEscape"], unfollowed := true, recurses := true, apart := false }
def TreeBackSaid : Prop := treeBackRow.holds Try.pinned (OpenSpec.ofChange treeBackSpec)

/-- ITS FALSE NEIGHBOUR: 'it returns false'. Refute it at one input. -/
def treeBackWrong : ChangeSpec := { name := "treeBack", fn := fun _ => fun
  | [d1, d2] => { results := [.lit (.bool false)], args := [d1, d2] }
  | _ => none }
def TreeBackWrongFalsely : Prop := treeBackRow.holds Try.pinned (OpenSpec.ofChange treeBackWrong)

/-- 'ablautlaw22.TreePruned': WHATEVER THE INPUT: true; the input reads as it did. -/
def treePrunedSpec : ChangeSpec := { name := "treePruned", fn := fun _ => fun
  | [d1, d2] => { results := [.lit (.bool true)], args := [d1, d2] }
  | _ => none }
def treePrunedRow : OpenClaim := { program := "ytiioldgdgfdjeaa", sum := "d460da7340630e9a4b5e929cd6aafd2ed7047325956591a05cf76762b64f1382", func := "ablaut/ablautlaw22.TreePruned", spec := "treePruned", inPlace := ["internal/abi.NoEscape"], unfollowed := true, recurses := true, apart := false }
def TreePrunedSaid : Prop := treePrunedRow.holds Try.pinned (OpenSpec.ofChange treePrunedSpec)

/-- ITS FALSE NEIGHBOUR: 'it returns false'. Refute it at one input. -/
def treePrunedWrong : ChangeSpec := { name := "treePruned", fn := fun _ => fun
  | [d1, d2] => { results := [.lit (.bool false)], args := [d1, d2] }
  | _ => none }
def TreePrunedWrongFalsely : Prop := treePrunedRow.holds Try.pinned (OpenSpec.ofChange treePrunedWrong)

/- THE SECOND FORM. 'bulk': how many values and letters a reading holds, each counted each time it is reached (what is shared counts as often as it is met; a slice's spare places count too). A statement '..UptoSaid' is the law's where the arguments, and the package variables that the reading takes, are together of bulk at most 1048576: NARROWER than '..Said'. Prove '..Said' where nothing that the law and all that it calls make is longer than what came in: it says more and counts as full. Else prove '..UptoSaid'. A law counts once. -/
mutual
def uptoBulk {H : Type} : DataW H → Nat
  | .lit (.string bytes) => bytes.length + 1
  | .lit _ => 1
  | .nil => 1
  | .ptr d => uptoBulk d + 1
  | .slice elems spare => uptoBulkAll elems + uptoBulkAll spare + 1
  | .agg parts => uptoBulkAll parts + 1
  | .iface _ d => uptoBulk d + 1
  | .map entries => uptoBulkEntries entries + 1
  | .held _ => 1
def uptoBulkAll {H : Type} : List (DataW H) → Nat
  | [] => 0
  | d :: r => uptoBulk d + uptoBulkAll r
def uptoBulkEntries {H : Type} : List (Lit × DataW H) → Nat
  | [] => 0
  | x :: r => uptoBulkEntry x + uptoBulkEntries r
def uptoBulkEntry {H : Type} : Lit × DataW H → Nat
  | (.string bytes, d) => bytes.length + uptoBulk d + 1
  | (_, d) => uptoBulk d + 1
 end
def uptoSmall : (H : Type) → List (DataW H) → Bool := fun _ ds => decide (uptoBulkAll ds ≤ 1048576)
def OpenSpec.upto (s : _root_.Go.ChangeSpec) : _root_.Go.OpenSpec := { _root_.Go.OpenSpec.ofChange s with cond := some uptoSmall }

/-- 'ablautlaw22.TreeKnown', WHERE WHAT IT READS IS OF BULK AT MOST 1048576: true; the input reads as it did. -/
def treeKnownUptoRow : OpenClaim := { program := "ytiioldgdgfdjeaa", sum := "d460da7340630e9a4b5e929cd6aafd2ed7047325956591a05cf76762b64f1382", func := "ablaut/ablautlaw22.TreeKnown", spec := "treeKnown", inPlace := ["internal/abi.NoEscape", "internal/bytealg.MakeNoZero"], unfollowed := true, recurses := true, apart := false, narrowed := true }
def TreeKnownUptoSaid : Prop := treeKnownUptoRow.holds Try.pinned (OpenSpec.upto treeKnownSpec)

/-- 'ablautlaw22.TreeTexts', WHERE WHAT IT READS IS OF BULK AT MOST 1048576: true; the input reads as it did. -/
def treeTextsUptoRow : OpenClaim := { program := "ytiioldgdgfdjeaa", sum := "d460da7340630e9a4b5e929cd6aafd2ed7047325956591a05cf76762b64f1382", func := "ablaut/ablautlaw22.TreeTexts", spec := "treeTexts", inPlace := ["internal/abi.NoEscape"], unfollowed := true, recurses := true, apart := false, narrowed := true }
def TreeTextsUptoSaid : Prop := treeTextsUptoRow.holds Try.pinned (OpenSpec.upto treeTextsSpec)

/-- 'ablautlaw22.TreePrunes', WHERE WHAT IT READS IS OF BULK AT MOST 1048576: true; the input reads as it did. -/
def treePrunesUptoRow : OpenClaim := { program := "ytiioldgdgfdjeaa", sum := "d460da7340630e9a4b5e929cd6aafd2ed7047325956591a05cf76762b64f1382", func := "ablaut/ablautlaw22.TreePrunes", spec := "treePrunes", inPlace := ["internal/abi.NoEscape"], unfollowed := true, recurses := true, apart := false, narrowed := true }
def TreePrunesUptoSaid : Prop := treePrunesUptoRow.holds Try.pinned (OpenSpec.upto treePrunesSpec)

/-- 'ablautlaw22.TreeCommons', WHERE WHAT IT READS IS OF BULK AT MOST 1048576: true; the input reads as it did. -/
def treeCommonsUptoRow : OpenClaim := { program := "ytiioldgdgfdjeaa", sum := "d460da7340630e9a4b5e929cd6aafd2ed7047325956591a05cf76762b64f1382", func := "ablaut/ablautlaw22.TreeCommons", spec := "treeCommons", inPlace := ["internal/abi.NoEscape"], unfollowed := true, recurses := true, apart := false, narrowed := true }
def TreeCommonsUptoSaid : Prop := treeCommonsUptoRow.holds Try.pinned (OpenSpec.upto treeCommonsSpec)

/-- 'ablautlaw22.TreeClades', WHERE WHAT IT READS IS OF BULK AT MOST 1048576: true; the input reads as it did. -/
def treeCladesUptoRow : OpenClaim := { program := "ytiioldgdgfdjeaa", sum := "d460da7340630e9a4b5e929cd6aafd2ed7047325956591a05cf76762b64f1382", func := "ablaut/ablautlaw22.TreeClades", spec := "treeClades", inPlace := ["internal/abi.NoEscape"], unfollowed := true, recurses := true, apart := false, narrowed := true }
def TreeCladesUptoSaid : Prop := treeCladesUptoRow.holds Try.pinned (OpenSpec.upto treeCladesSpec)

/-- 'ablautlaw22.TreeWays', WHERE WHAT IT READS IS OF BULK AT MOST 1048576: true; the input reads as it did. -/
def treeWaysUptoRow : OpenClaim := { program := "ytiioldgdgfdjeaa", sum := "d460da7340630e9a4b5e929cd6aafd2ed7047325956591a05cf76762b64f1382", func := "ablaut/ablautlaw22.TreeWays", spec := "treeWays", inPlace := ["internal/abi.NoEscape"], unfollowed := true, recurses := true, apart := false, narrowed := true }
def TreeWaysUptoSaid : Prop := treeWaysUptoRow.holds Try.pinned (OpenSpec.upto treeWaysSpec)

/-- 'ablautlaw22.TreeNodes', WHERE WHAT IT READS IS OF BULK AT MOST 1048576: true; the input reads as it did. -/
def treeNodesUptoRow : OpenClaim := { program := "ytiioldgdgfdjeaa", sum := "d460da7340630e9a4b5e929cd6aafd2ed7047325956591a05cf76762b64f1382", func := "ablaut/ablautlaw22.TreeNodes", spec := "treeNodes", inPlace := ["internal/abi.NoEscape"], unfollowed := true, recurses := true, apart := false, narrowed := true }
def TreeNodesUptoSaid : Prop := treeNodesUptoRow.holds Try.pinned (OpenSpec.upto treeNodesSpec)

/-- 'ablautlaw22.TreeCommon', WHERE WHAT IT READS IS OF BULK AT MOST 1048576: true; the input reads as it did. -/
def treeCommonUptoRow : OpenClaim := { program := "ytiioldgdgfdjeaa", sum := "d460da7340630e9a4b5e929cd6aafd2ed7047325956591a05cf76762b64f1382", func := "ablaut/ablautlaw22.TreeCommon", spec := "treeCommon", inPlace := ["internal/abi.NoEscape"], unfollowed := true, recurses := true, apart := false, narrowed := true }
def TreeCommonUptoSaid : Prop := treeCommonUptoRow.holds Try.pinned (OpenSpec.upto treeCommonSpec)

/-- 'ablautlaw22.TreeBack', WHERE WHAT IT READS IS OF BULK AT MOST 1048576: true; the input reads as it did. -/
def treeBackUptoRow : OpenClaim := { program := "ytiioldgdgfdjeaa", sum := "d460da7340630e9a4b5e929cd6aafd2ed7047325956591a05cf76762b64f1382", func := "ablaut/ablautlaw22.TreeBack", spec := "treeBack", inPlace := ["internal/abi.NoEscape"], unfollowed := true, recurses := true, apart := false, narrowed := true }
def TreeBackUptoSaid : Prop := treeBackUptoRow.holds Try.pinned (OpenSpec.upto treeBackSpec)

/-- 'ablautlaw22.TreePruned', WHERE WHAT IT READS IS OF BULK AT MOST 1048576: true; the input reads as it did. -/
def treePrunedUptoRow : OpenClaim := { program := "ytiioldgdgfdjeaa", sum := "d460da7340630e9a4b5e929cd6aafd2ed7047325956591a05cf76762b64f1382", func := "ablaut/ablautlaw22.TreePruned", spec := "treePruned", inPlace := ["internal/abi.NoEscape"], unfollowed := true, recurses := true, apart := false, narrowed := true }
def TreePrunedUptoSaid : Prop := treePrunedUptoRow.holds Try.pinned (OpenSpec.upto treePrunedSpec)

end Rows
end Go.Proofs.Ytiioldgdgfdjeaa
