/-
  No cell of these rows narrows 'for every input' (looked for: loops, veiled, ifaces, maps, wideKeys, modest, calm, conditions, laid).
  DERIVED. THE GIVEN ROWS OF THIS SEAT. 10 by the template 'for every input the law returns true; each argument reads behind the call as it read before'; 0 by the template 'total and deterministic' (their statements: YtmiieofmhncfbaaTotals.lean).
  GIVEN WITH THE SEED: the statements are not yours to turn. If you find one false, say at which input.
  Laid BY PROGRAM, IN A SANDBOX (cutbox-rows.mjs): the forced cells as the released guide's own fill.sh prints them over the translation 63cdb40abdfe5a42… (all of the seat's roots in one cut). By AI agents, Wed Nov 11 2026. No macro, syntax, notation, axiom, sorry.
-/
import Derived.Test.YtmiieofmhncfbaaChecked
import GoSem.Claim
import GoSem.ClaimJoined
import GoSem.ClaimMapViews
import Derived.JoinedTies
import Derived.KernelRfl
namespace Go.Proofs.Ytmiieofmhncfbaa
/- THE CELL 'sum', in the pinned program and in every row, IS THE sha256 OF THE DUMP (.gsa) THAT YtmiieofmhncfbaaProg.lean LOADS. Nothing in Lean hashes anything: it is a label: what it is worth is what the hold of that sum in a sandbox is worth. -/
noncomputable def Try.pinned : Pinned := { name := "ytmiieofmhncfbaa", sum := "63cdb40abdfe5a4239e4594802afe0adc56311bcb469bf8280fdf3e0d6023548", checked := Try.checked }
namespace Rows
def none {H : Type} : Left H := { results := [], args := [] }

/-- 'ablautlaw16.SyllSplits': WHATEVER THE INPUT: true; the input reads as it did. -/
def syllSplitsSpec : ChangeSpec := { name := "syllSplits", fn := fun _ => fun
  | [d1, d2] => { results := [.lit (.bool true)], args := [d1, d2] }
  | _ => none }
def syllSplitsRow : OpenClaim := { program := "ytmiieofmhncfbaa", sum := "63cdb40abdfe5a4239e4594802afe0adc56311bcb469bf8280fdf3e0d6023548", func := "ablaut/ablautlaw16.SyllSplits", spec := "syllSplits", inPlace := ["internal/abi.NoEscape", "internal/bytealg.MakeNoZero"], unfollowed := true, recurses := true, apart := false }
def SyllSplitsSaid : Prop := syllSplitsRow.holds Try.pinned (OpenSpec.ofChange syllSplitsSpec)

/-- ITS FALSE NEIGHBOUR: 'it returns false'. Refute it at one input. -/
def syllSplitsWrong : ChangeSpec := { name := "syllSplits", fn := fun _ => fun
  | [d1, d2] => { results := [.lit (.bool false)], args := [d1, d2] }
  | _ => none }
def SyllSplitsWrongFalsely : Prop := syllSplitsRow.holds Try.pinned (OpenSpec.ofChange syllSplitsWrong)

/-- 'ablautlaw16.SyllStress': WHATEVER THE INPUT: true; the input reads as it did. -/
def syllStressSpec : ChangeSpec := { name := "syllStress", fn := fun _ => fun
  | [d1, d2, d3] => { results := [.lit (.bool true)], args := [d1, d2, d3] }
  | _ => none }
def syllStressRow : OpenClaim := { program := "ytmiieofmhncfbaa", sum := "63cdb40abdfe5a4239e4594802afe0adc56311bcb469bf8280fdf3e0d6023548", func := "ablaut/ablautlaw16.SyllStress", spec := "syllStress", inPlace := ["internal/abi.NoEscape", "internal/bytealg.MakeNoZero"], unfollowed := true, recurses := true, apart := false }
def SyllStressSaid : Prop := syllStressRow.holds Try.pinned (OpenSpec.ofChange syllStressSpec)

/-- ITS FALSE NEIGHBOUR: 'it returns false'. Refute it at one input. -/
def syllStressWrong : ChangeSpec := { name := "syllStress", fn := fun _ => fun
  | [d1, d2, d3] => { results := [.lit (.bool false)], args := [d1, d2, d3] }
  | _ => none }
def SyllStressWrongFalsely : Prop := syllStressRow.holds Try.pinned (OpenSpec.ofChange syllStressWrong)

/-- 'ablautlaw16.SyllPlaces': WHATEVER THE INPUT: true; the input reads as it did. -/
def syllPlacesSpec : ChangeSpec := { name := "syllPlaces", fn := fun _ => fun
  | [d1, d2] => { results := [.lit (.bool true)], args := [d1, d2] }
  | _ => none }
def syllPlacesRow : OpenClaim := { program := "ytmiieofmhncfbaa", sum := "63cdb40abdfe5a4239e4594802afe0adc56311bcb469bf8280fdf3e0d6023548", func := "ablaut/ablautlaw16.SyllPlaces", spec := "syllPlaces", inPlace := ["internal/abi.NoEscape", "internal/bytealg.MakeNoZero"], unfollowed := true, recurses := true, apart := false }
def SyllPlacesSaid : Prop := syllPlacesRow.holds Try.pinned (OpenSpec.ofChange syllPlacesSpec)

/-- ITS FALSE NEIGHBOUR: 'it returns false'. Refute it at one input. -/
def syllPlacesWrong : ChangeSpec := { name := "syllPlaces", fn := fun _ => fun
  | [d1, d2] => { results := [.lit (.bool false)], args := [d1, d2] }
  | _ => none }
def SyllPlacesWrongFalsely : Prop := syllPlacesRow.holds Try.pinned (OpenSpec.ofChange syllPlacesWrong)

/-- 'ablautlaw16.SyllChecks': WHATEVER THE INPUT: true; the input reads as it did. -/
def syllChecksSpec : ChangeSpec := { name := "syllChecks", fn := fun _ => fun
  | [d1, d2] => { results := [.lit (.bool true)], args := [d1, d2] }
  | _ => none }
def syllChecksRow : OpenClaim := { program := "ytmiieofmhncfbaa", sum := "63cdb40abdfe5a4239e4594802afe0adc56311bcb469bf8280fdf3e0d6023548", func := "ablaut/ablautlaw16.SyllChecks", spec := "syllChecks", inPlace := ["internal/abi.NoEscape", "internal/bytealg.MakeNoZero"], unfollowed := true, recurses := true, apart := false }
def SyllChecksSaid : Prop := syllChecksRow.holds Try.pinned (OpenSpec.ofChange syllChecksSpec)

/-- ITS FALSE NEIGHBOUR: 'it returns false'. Refute it at one input. -/
def syllChecksWrong : ChangeSpec := { name := "syllChecks", fn := fun _ => fun
  | [d1, d2] => { results := [.lit (.bool false)], args := [d1, d2] }
  | _ => none }
def SyllChecksWrongFalsely : Prop := syllChecksRow.holds Try.pinned (OpenSpec.ofChange syllChecksWrong)

/-- 'ablautlaw16.SyllCovers': WHATEVER THE INPUT: true; the input reads as it did. -/
def syllCoversSpec : ChangeSpec := { name := "syllCovers", fn := fun _ => fun
  | [d1, d2] => { results := [.lit (.bool true)], args := [d1, d2] }
  | _ => none }
def syllCoversRow : OpenClaim := { program := "ytmiieofmhncfbaa", sum := "63cdb40abdfe5a4239e4594802afe0adc56311bcb469bf8280fdf3e0d6023548", func := "ablaut/ablautlaw16.SyllCovers", spec := "syllCovers", inPlace := ["internal/abi.NoEscape", "internal/bytealg.MakeNoZero"], unfollowed := true, recurses := true, apart := false }
def SyllCoversSaid : Prop := syllCoversRow.holds Try.pinned (OpenSpec.ofChange syllCoversSpec)

/-- ITS FALSE NEIGHBOUR: 'it returns false'. Refute it at one input. -/
def syllCoversWrong : ChangeSpec := { name := "syllCovers", fn := fun _ => fun
  | [d1, d2] => { results := [.lit (.bool false)], args := [d1, d2] }
  | _ => none }
def SyllCoversWrongFalsely : Prop := syllCoversRow.holds Try.pinned (OpenSpec.ofChange syllCoversWrong)

/-- 'ablautlaw16.SyllOnsets': WHATEVER THE INPUT: true; the input reads as it did. -/
def syllOnsetsSpec : ChangeSpec := { name := "syllOnsets", fn := fun _ => fun
  | [d1, d2] => { results := [.lit (.bool true)], args := [d1, d2] }
  | _ => none }
def syllOnsetsRow : OpenClaim := { program := "ytmiieofmhncfbaa", sum := "63cdb40abdfe5a4239e4594802afe0adc56311bcb469bf8280fdf3e0d6023548", func := "ablaut/ablautlaw16.SyllOnsets", spec := "syllOnsets", inPlace := ["internal/abi.NoEscape", "internal/bytealg.MakeNoZero"], unfollowed := true, recurses := true, apart := false }
def SyllOnsetsSaid : Prop := syllOnsetsRow.holds Try.pinned (OpenSpec.ofChange syllOnsetsSpec)

/-- ITS FALSE NEIGHBOUR: 'it returns false'. Refute it at one input. -/
def syllOnsetsWrong : ChangeSpec := { name := "syllOnsets", fn := fun _ => fun
  | [d1, d2] => { results := [.lit (.bool false)], args := [d1, d2] }
  | _ => none }
def SyllOnsetsWrongFalsely : Prop := syllOnsetsRow.holds Try.pinned (OpenSpec.ofChange syllOnsetsWrong)

/-- 'ablautlaw16.SyllLetters': WHATEVER THE INPUT: true; the input reads as it did. -/
def syllLettersSpec : ChangeSpec := { name := "syllLetters", fn := fun _ => fun
  | [d1, d2] => { results := [.lit (.bool true)], args := [d1, d2] }
  | _ => none }
def syllLettersRow : OpenClaim := { program := "ytmiieofmhncfbaa", sum := "63cdb40abdfe5a4239e4594802afe0adc56311bcb469bf8280fdf3e0d6023548", func := "ablaut/ablautlaw16.SyllLetters", spec := "syllLetters", inPlace := ["internal/abi.NoEscape", "internal/bytealg.MakeNoZero"], unfollowed := true, recurses := true, apart := false }
def SyllLettersSaid : Prop := syllLettersRow.holds Try.pinned (OpenSpec.ofChange syllLettersSpec)

/-- ITS FALSE NEIGHBOUR: 'it returns false'. Refute it at one input. -/
def syllLettersWrong : ChangeSpec := { name := "syllLetters", fn := fun _ => fun
  | [d1, d2] => { results := [.lit (.bool false)], args := [d1, d2] }
  | _ => none }
def SyllLettersWrongFalsely : Prop := syllLettersRow.holds Try.pinned (OpenSpec.ofChange syllLettersWrong)

/-- 'ablautlaw16.SyllShapes': WHATEVER THE INPUT: true; the input reads as it did. -/
def syllShapesSpec : ChangeSpec := { name := "syllShapes", fn := fun _ => fun
  | [d1, d2] => { results := [.lit (.bool true)], args := [d1, d2] }
  | _ => none }
def syllShapesRow : OpenClaim := { program := "ytmiieofmhncfbaa", sum := "63cdb40abdfe5a4239e4594802afe0adc56311bcb469bf8280fdf3e0d6023548", func := "ablaut/ablautlaw16.SyllShapes", spec := "syllShapes", inPlace := ["internal/abi.NoEscape", "internal/bytealg.MakeNoZero"], unfollowed := true, recurses := true, apart := false }
def SyllShapesSaid : Prop := syllShapesRow.holds Try.pinned (OpenSpec.ofChange syllShapesSpec)

/-- ITS FALSE NEIGHBOUR: 'it returns false'. Refute it at one input. -/
def syllShapesWrong : ChangeSpec := { name := "syllShapes", fn := fun _ => fun
  | [d1, d2] => { results := [.lit (.bool false)], args := [d1, d2] }
  | _ => none }
def SyllShapesWrongFalsely : Prop := syllShapesRow.holds Try.pinned (OpenSpec.ofChange syllShapesWrong)

/-- 'ablautlaw16.SyllRhymes': WHATEVER THE INPUT: true; the input reads as it did. -/
def syllRhymesSpec : ChangeSpec := { name := "syllRhymes", fn := fun _ => fun
  | [d1, d2, d3] => { results := [.lit (.bool true)], args := [d1, d2, d3] }
  | _ => none }
def syllRhymesRow : OpenClaim := { program := "ytmiieofmhncfbaa", sum := "63cdb40abdfe5a4239e4594802afe0adc56311bcb469bf8280fdf3e0d6023548", func := "ablaut/ablautlaw16.SyllRhymes", spec := "syllRhymes", inPlace := ["internal/abi.NoEscape", "internal/bytealg.MakeNoZero"], unfollowed := true, recurses := true, apart := false }
def SyllRhymesSaid : Prop := syllRhymesRow.holds Try.pinned (OpenSpec.ofChange syllRhymesSpec)

/-- ITS FALSE NEIGHBOUR: 'it returns false'. Refute it at one input. -/
def syllRhymesWrong : ChangeSpec := { name := "syllRhymes", fn := fun _ => fun
  | [d1, d2, d3] => { results := [.lit (.bool false)], args := [d1, d2, d3] }
  | _ => none }
def SyllRhymesWrongFalsely : Prop := syllRhymesRow.holds Try.pinned (OpenSpec.ofChange syllRhymesWrong)

/-- 'ablautlaw16.SyllSame': WHATEVER THE INPUT: true; the input reads as it did. -/
def syllSameSpec : ChangeSpec := { name := "syllSame", fn := fun _ => fun
  | [d1, d2, d3] => { results := [.lit (.bool true)], args := [d1, d2, d3] }
  | _ => none }
def syllSameRow : OpenClaim := { program := "ytmiieofmhncfbaa", sum := "63cdb40abdfe5a4239e4594802afe0adc56311bcb469bf8280fdf3e0d6023548", func := "ablaut/ablautlaw16.SyllSame", spec := "syllSame", inPlace := ["internal/abi.NoEscape", "internal/bytealg.MakeNoZero"], unfollowed := true, recurses := true, apart := false }
def SyllSameSaid : Prop := syllSameRow.holds Try.pinned (OpenSpec.ofChange syllSameSpec)

/-- ITS FALSE NEIGHBOUR: 'it returns false'. Refute it at one input. -/
def syllSameWrong : ChangeSpec := { name := "syllSame", fn := fun _ => fun
  | [d1, d2, d3] => { results := [.lit (.bool false)], args := [d1, d2, d3] }
  | _ => none }
def SyllSameWrongFalsely : Prop := syllSameRow.holds Try.pinned (OpenSpec.ofChange syllSameWrong)

/- THE SECOND FORM. 'bulk': how many values and letters a reading holds, each counted each time it is reached (what is shared counts as often as it is met; a slice's spare places count too). A statement '..UptoSaid' is the law's where the arguments, and the package variables that the reading takes, are together of bulk at most 1048576: NARROWER than '..Said'. Prove '..Said' where nothing that the law and all that it calls make is longer than what came in: it says more and counts as full. Else prove '..UptoSaid'. A law counts once. -/
mutual
def uptoBulk {H : Type} : DataW H → Nat
  | .lit (.string bytes) => bytes.length + 1
  | .lit _ => 1
  | .nil => 1
  | .ptr d => uptoBulk d + 1
  | .slice elems spare => uptoBulkAll elems + uptoBulkAll spare + 1
  | .agg parts => uptoBulkAll parts + 1
  | .iface _ d => uptoBulk d + 1
  | .map entries => uptoBulkEntries entries + 1
  | .held _ => 1
def uptoBulkAll {H : Type} : List (DataW H) → Nat
  | [] => 0
  | d :: r => uptoBulk d + uptoBulkAll r
def uptoBulkEntries {H : Type} : List (Lit × DataW H) → Nat
  | [] => 0
  | x :: r => uptoBulkEntry x + uptoBulkEntries r
def uptoBulkEntry {H : Type} : Lit × DataW H → Nat
  | (.string bytes, d) => bytes.length + uptoBulk d + 1
  | (_, d) => uptoBulk d + 1
 end
def uptoSmall : (H : Type) → List (DataW H) → Bool := fun _ ds => decide (uptoBulkAll ds ≤ 1048576)
def OpenSpec.upto (s : _root_.Go.ChangeSpec) : _root_.Go.OpenSpec := { _root_.Go.OpenSpec.ofChange s with cond := some uptoSmall }

/-- 'ablautlaw16.SyllSplits', WHERE WHAT IT READS IS OF BULK AT MOST 1048576: true; the input reads as it did. -/
def syllSplitsUptoRow : OpenClaim := { program := "ytmiieofmhncfbaa", sum := "63cdb40abdfe5a4239e4594802afe0adc56311bcb469bf8280fdf3e0d6023548", func := "ablaut/ablautlaw16.SyllSplits", spec := "syllSplits", inPlace := ["internal/abi.NoEscape", "internal/bytealg.MakeNoZero"], unfollowed := true, recurses := true, apart := false, narrowed := true }
def SyllSplitsUptoSaid : Prop := syllSplitsUptoRow.holds Try.pinned (OpenSpec.upto syllSplitsSpec)

/-- 'ablautlaw16.SyllStress', WHERE WHAT IT READS IS OF BULK AT MOST 1048576: true; the input reads as it did. -/
def syllStressUptoRow : OpenClaim := { program := "ytmiieofmhncfbaa", sum := "63cdb40abdfe5a4239e4594802afe0adc56311bcb469bf8280fdf3e0d6023548", func := "ablaut/ablautlaw16.SyllStress", spec := "syllStress", inPlace := ["internal/abi.NoEscape", "internal/bytealg.MakeNoZero"], unfollowed := true, recurses := true, apart := false, narrowed := true }
def SyllStressUptoSaid : Prop := syllStressUptoRow.holds Try.pinned (OpenSpec.upto syllStressSpec)

/-- 'ablautlaw16.SyllPlaces', WHERE WHAT IT READS IS OF BULK AT MOST 1048576: true; the input reads as it did. -/
def syllPlacesUptoRow : OpenClaim := { program := "ytmiieofmhncfbaa", sum := "63cdb40abdfe5a4239e4594802afe0adc56311bcb469bf8280fdf3e0d6023548", func := "ablaut/ablautlaw16.SyllPlaces", spec := "syllPlaces", inPlace := ["internal/abi.NoEscape", "internal/bytealg.MakeNoZero"], unfollowed := true, recurses := true, apart := false, narrowed := true }
def SyllPlacesUptoSaid : Prop := syllPlacesUptoRow.holds Try.pinned (OpenSpec.upto syllPlacesSpec)

/-- 'ablautlaw16.SyllChecks', WHERE WHAT IT READS IS OF BULK AT MOST 1048576: true; the input reads as it did. -/
def syllChecksUptoRow : OpenClaim := { program := "ytmiieofmhncfbaa", sum := "63cdb40abdfe5a4239e4594802afe0adc56311bcb469bf8280fdf3e0d6023548", func := "ablaut/ablautlaw16.SyllChecks", spec := "syllChecks", inPlace := ["internal/abi.NoEscape", "internal/bytealg.MakeNoZero"], unfollowed := true, recurses := true, apart := false, narrowed := true }
def SyllChecksUptoSaid : Prop := syllChecksUptoRow.holds Try.pinned (OpenSpec.upto syllChecksSpec)

/-- 'ablautlaw16.SyllCovers', WHERE WHAT IT READS IS OF BULK AT MOST 1048576: true; the input reads as it did. -/
def syllCoversUptoRow : OpenClaim := { program := "ytmiieofmhncfbaa", sum := "63cdb40abdfe5a4239e4594802afe0adc56311bcb469bf8280fdf3e0d6023548", func := "ablaut/ablautlaw16.SyllCovers", spec := "syllCovers", inPlace := ["internal/abi.NoEscape", "internal/bytealg.MakeNoZero"], unfollowed := true, recurses := true, apart := false, narrowed := true }
def SyllCoversUptoSaid : Prop := syllCoversUptoRow.holds Try.pinned (OpenSpec.upto syllCoversSpec)

/-- 'ablautlaw16.SyllOnsets', WHERE WHAT IT READS IS OF BULK AT MOST 1048576: true; the input reads as it did. -/
def syllOnsetsUptoRow : OpenClaim := { program := "ytmiieofmhncfbaa", sum := "63cdb40abdfe5a4239e4594802afe0adc56311bcb469bf8280fdf3e0d6023548", func := "ablaut/ablautlaw16.SyllOnsets", spec := "syllOnsets", inPlace := ["internal/abi.NoEscape", "internal/bytealg.MakeNoZero"], unfollowed := true, recurses := true, apart := false, narrowed := true }
def SyllOnsetsUptoSaid : Prop := syllOnsetsUptoRow.holds Try.pinned (OpenSpec.upto syllOnsetsSpec)

/-- 'ablautlaw16.SyllLetters', WHERE WHAT IT READS IS OF BULK AT MOST 1048576: true; the input reads as it did. -/
def syllLettersUptoRow : OpenClaim := { program := "ytmiieofmhncfbaa", sum := "63cdb40abdfe5a4239e4594802afe0adc56311bcb469bf8280fdf3e0d6023548", func := "ablaut/ablautlaw16.SyllLetters", spec := "syllLetters", inPlace := ["internal/abi.NoEscape", "internal/bytealg.MakeNoZero"], unfollowed := true, recurses := true, apart := false, narrowed := true }
def SyllLettersUptoSaid : Prop := syllLettersUptoRow.holds Try.pinned (OpenSpec.upto syllLettersSpec)

/-- 'ablautlaw16.SyllShapes', WHERE WHAT IT READS IS OF BULK AT MOST 1048576: true; the input reads as it did. -/
def syllShapesUptoRow : OpenClaim := { program := "ytmiieofmhncfbaa", sum := "63cdb40abdfe5a4239e4594802afe0adc56311bcb469bf8280fdf3e0d6023548", func := "ablaut/ablautlaw16.SyllShapes", spec := "syllShapes", inPlace := ["internal/abi.NoEscape", "internal/bytealg.MakeNoZero"], unfollowed := true, recurses := true, apart := false, narrowed := true }
def SyllShapesUptoSaid : Prop := syllShapesUptoRow.holds Try.pinned (OpenSpec.upto syllShapesSpec)

/-- 'ablautlaw16.SyllRhymes', WHERE WHAT IT READS IS OF BULK AT MOST 1048576: true; the input reads as it did. -/
def syllRhymesUptoRow : OpenClaim := { program := "ytmiieofmhncfbaa", sum := "63cdb40abdfe5a4239e4594802afe0adc56311bcb469bf8280fdf3e0d6023548", func := "ablaut/ablautlaw16.SyllRhymes", spec := "syllRhymes", inPlace := ["internal/abi.NoEscape", "internal/bytealg.MakeNoZero"], unfollowed := true, recurses := true, apart := false, narrowed := true }
def SyllRhymesUptoSaid : Prop := syllRhymesUptoRow.holds Try.pinned (OpenSpec.upto syllRhymesSpec)

/-- 'ablautlaw16.SyllSame', WHERE WHAT IT READS IS OF BULK AT MOST 1048576: true; the input reads as it did. -/
def syllSameUptoRow : OpenClaim := { program := "ytmiieofmhncfbaa", sum := "63cdb40abdfe5a4239e4594802afe0adc56311bcb469bf8280fdf3e0d6023548", func := "ablaut/ablautlaw16.SyllSame", spec := "syllSame", inPlace := ["internal/abi.NoEscape", "internal/bytealg.MakeNoZero"], unfollowed := true, recurses := true, apart := false, narrowed := true }
def SyllSameUptoSaid : Prop := syllSameUptoRow.holds Try.pinned (OpenSpec.upto syllSameSpec)

end Rows
end Go.Proofs.Ytmiieofmhncfbaa
