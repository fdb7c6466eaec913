/-
  No cell of these rows narrows 'for every input' (looked for: loops, veiled, ifaces, maps, wideKeys, modest, calm, conditions, laid).
  DERIVED. THE GIVEN ROWS OF THIS SEAT. 5 by the template 'for every input the law returns true; each argument reads behind the call as it read before'; 0 by the template 'total and deterministic' (their statements: YtgcgnnblgimegaaTotals.lean).
  GIVEN WITH THE SEED: the statements are not yours to turn. If you find one false, say at which input.
  Laid BY PROGRAM, IN A SANDBOX (cutbox-rows.mjs): the forced cells as the released guide's own fill.sh prints them over the translation 96d6c1935d84bb5f… (all of the seat's roots in one cut). By AI agents, Wed Nov 11 2026. No macro, syntax, notation, axiom, sorry.
-/
import Derived.Test.YtgcgnnblgimegaaChecked
import GoSem.Claim
import GoSem.ClaimJoined
import GoSem.ClaimMapViews
import Derived.JoinedTies
import Derived.KernelRfl
namespace Go.Proofs.Ytgcgnnblgimegaa
/- THE CELL 'sum', in the pinned program and in every row, IS THE sha256 OF THE DUMP (.gsa) THAT YtgcgnnblgimegaaProg.lean LOADS. Nothing in Lean hashes anything: it is a label: what it is worth is what the hold of that sum in a sandbox is worth. -/
noncomputable def Try.pinned : Pinned := { name := "ytgcgnnblgimegaa", sum := "96d6c1935d84bb5fb773d517a3c7c88dca5b4d8b357d3b6de816f5a30caa3296", checked := Try.checked }
namespace Rows
def none {H : Type} : Left H := { results := [], args := [] }

/-- 'mosaiclaw12.GaussSolves': WHATEVER THE INPUT: true; the input reads as it did. -/
def gaussSolvesSpec : ChangeSpec := { name := "gaussSolves", fn := fun _ => fun
  | [d1, d2, d3] => { results := [.lit (.bool true)], args := [d1, d2, d3] }
  | _ => none }
def gaussSolvesRow : OpenClaim := { program := "ytgcgnnblgimegaa", sum := "96d6c1935d84bb5fb773d517a3c7c88dca5b4d8b357d3b6de816f5a30caa3296", func := "mosaic/mosaiclaw12.GaussSolves", spec := "gaussSolves", inPlace := ["internal/abi.NoEscape", "internal/bytealg.MakeNoZero"], unfollowed := true, recurses := true, apart := false }
def GaussSolvesSaid : Prop := gaussSolvesRow.holds Try.pinned (OpenSpec.ofChange gaussSolvesSpec)

/-- ITS FALSE NEIGHBOUR: 'it returns false'. Refute it at one input. -/
def gaussSolvesWrong : ChangeSpec := { name := "gaussSolves", fn := fun _ => fun
  | [d1, d2, d3] => { results := [.lit (.bool false)], args := [d1, d2, d3] }
  | _ => none }
def GaussSolvesWrongFalsely : Prop := gaussSolvesRow.holds Try.pinned (OpenSpec.ofChange gaussSolvesWrong)

/-- 'mosaiclaw12.GaussTrue': WHATEVER THE INPUT: true; the input reads as it did. -/
def gaussTrueSpec : ChangeSpec := { name := "gaussTrue", fn := fun _ => fun
  | [d1, d2, d3] => { results := [.lit (.bool true)], args := [d1, d2, d3] }
  | _ => none }
def gaussTrueRow : OpenClaim := { program := "ytgcgnnblgimegaa", sum := "96d6c1935d84bb5fb773d517a3c7c88dca5b4d8b357d3b6de816f5a30caa3296", func := "mosaic/mosaiclaw12.GaussTrue", spec := "gaussTrue", inPlace := ["internal/abi.NoEscape", "internal/bytealg.MakeNoZero"], unfollowed := true, recurses := true, apart := false }
def GaussTrueSaid : Prop := gaussTrueRow.holds Try.pinned (OpenSpec.ofChange gaussTrueSpec)

/-- ITS FALSE NEIGHBOUR: 'it returns false'. Refute it at one input. -/
def gaussTrueWrong : ChangeSpec := { name := "gaussTrue", fn := fun _ => fun
  | [d1, d2, d3] => { results := [.lit (.bool false)], args := [d1, d2, d3] }
  | _ => none }
def GaussTrueWrongFalsely : Prop := gaussTrueRow.holds Try.pinned (OpenSpec.ofChange gaussTrueWrong)

/-- 'mosaiclaw26.InactTrue': WHATEVER THE INPUT: true; the input reads as it did. -/
def inactTrueSpec : ChangeSpec := { name := "inactTrue", fn := fun _ => fun
  | [d1, d2] => { results := [.lit (.bool true)], args := [d1, d2] }
  | _ => none }
def inactTrueRow : OpenClaim := { program := "ytgcgnnblgimegaa", sum := "96d6c1935d84bb5fb773d517a3c7c88dca5b4d8b357d3b6de816f5a30caa3296", func := "mosaic/mosaiclaw26.InactTrue", spec := "inactTrue", inPlace := ["internal/abi.NoEscape", "internal/bytealg.MakeNoZero"], unfollowed := true, recurses := true, apart := false }
def InactTrueSaid : Prop := inactTrueRow.holds Try.pinned (OpenSpec.ofChange inactTrueSpec)

/-- ITS FALSE NEIGHBOUR: 'it returns false'. Refute it at one input. -/
def inactTrueWrong : ChangeSpec := { name := "inactTrue", fn := fun _ => fun
  | [d1, d2] => { results := [.lit (.bool false)], args := [d1, d2] }
  | _ => none }
def InactTrueWrongFalsely : Prop := inactTrueRow.holds Try.pinned (OpenSpec.ofChange inactTrueWrong)

/-- 'mosaiclaw26.InactUnknowns': WHATEVER THE INPUT: true; the input reads as it did. -/
def inactUnknownsSpec : ChangeSpec := { name := "inactUnknowns", fn := fun _ => fun
  | [d1, d2] => { results := [.lit (.bool true)], args := [d1, d2] }
  | _ => none }
def inactUnknownsRow : OpenClaim := { program := "ytgcgnnblgimegaa", sum := "96d6c1935d84bb5fb773d517a3c7c88dca5b4d8b357d3b6de816f5a30caa3296", func := "mosaic/mosaiclaw26.InactUnknowns", spec := "inactUnknowns", inPlace := ["internal/abi.NoEscape", "internal/bytealg.MakeNoZero"], unfollowed := true, recurses := true, apart := false }
def InactUnknownsSaid : Prop := inactUnknownsRow.holds Try.pinned (OpenSpec.ofChange inactUnknownsSpec)

/-- ITS FALSE NEIGHBOUR: 'it returns false'. Refute it at one input. -/
def inactUnknownsWrong : ChangeSpec := { name := "inactUnknowns", fn := fun _ => fun
  | [d1, d2] => { results := [.lit (.bool false)], args := [d1, d2] }
  | _ => none }
def InactUnknownsWrongFalsely : Prop := inactUnknownsRow.holds Try.pinned (OpenSpec.ofChange inactUnknownsWrong)

/-- 'mosaiclaw26.InactPeels': WHATEVER THE INPUT: true; the input reads as it did. -/
def inactPeelsSpec : ChangeSpec := { name := "inactPeels", fn := fun _ => fun
  | [d1, d2] => { results := [.lit (.bool true)], args := [d1, d2] }
  | _ => none }
def inactPeelsRow : OpenClaim := { program := "ytgcgnnblgimegaa", sum := "96d6c1935d84bb5fb773d517a3c7c88dca5b4d8b357d3b6de816f5a30caa3296", func := "mosaic/mosaiclaw26.InactPeels", spec := "inactPeels", inPlace := ["internal/abi.NoEscape", "internal/bytealg.MakeNoZero"], unfollowed := true, recurses := true, apart := false }
def InactPeelsSaid : Prop := inactPeelsRow.holds Try.pinned (OpenSpec.ofChange inactPeelsSpec)

/-- ITS FALSE NEIGHBOUR: 'it returns false'. Refute it at one input. -/
def inactPeelsWrong : ChangeSpec := { name := "inactPeels", fn := fun _ => fun
  | [d1, d2] => { results := [.lit (.bool false)], args := [d1, d2] }
  | _ => none }
def InactPeelsWrongFalsely : Prop := inactPeelsRow.holds Try.pinned (OpenSpec.ofChange inactPeelsWrong)

/- THE SECOND FORM. 'bulk': how many values and letters a reading holds, each counted each time it is reached (what is shared counts as often as it is met; a slice's spare places count too). A statement '..UptoSaid' is the law's where the arguments, and the package variables that the reading takes, are together of bulk at most 1048576: NARROWER than '..Said'. Prove '..Said' where nothing that the law and all that it calls make is longer than what came in: it says more and counts as full. Else prove '..UptoSaid'. A law counts once. -/
mutual
def uptoBulk {H : Type} : DataW H → Nat
  | .lit (.string bytes) => bytes.length + 1
  | .lit _ => 1
  | .nil => 1
  | .ptr d => uptoBulk d + 1
  | .slice elems spare => uptoBulkAll elems + uptoBulkAll spare + 1
  | .agg parts => uptoBulkAll parts + 1
  | .iface _ d => uptoBulk d + 1
  | .map entries => uptoBulkEntries entries + 1
  | .held _ => 1
def uptoBulkAll {H : Type} : List (DataW H) → Nat
  | [] => 0
  | d :: r => uptoBulk d + uptoBulkAll r
def uptoBulkEntries {H : Type} : List (Lit × DataW H) → Nat
  | [] => 0
  | x :: r => uptoBulkEntry x + uptoBulkEntries r
def uptoBulkEntry {H : Type} : Lit × DataW H → Nat
  | (.string bytes, d) => bytes.length + uptoBulk d + 1
  | (_, d) => uptoBulk d + 1
 end
def uptoSmall : (H : Type) → List (DataW H) → Bool := fun _ ds => decide (uptoBulkAll ds ≤ 1048576)
def OpenSpec.upto (s : _root_.Go.ChangeSpec) : _root_.Go.OpenSpec := { _root_.Go.OpenSpec.ofChange s with cond := some uptoSmall }

/-- 'mosaiclaw12.GaussSolves', WHERE WHAT IT READS IS OF BULK AT MOST 1048576: true; the input reads as it did. -/
def gaussSolvesUptoRow : OpenClaim := { program := "ytgcgnnblgimegaa", sum := "96d6c1935d84bb5fb773d517a3c7c88dca5b4d8b357d3b6de816f5a30caa3296", func := "mosaic/mosaiclaw12.GaussSolves", spec := "gaussSolves", inPlace := ["internal/abi.NoEscape", "internal/bytealg.MakeNoZero"], unfollowed := true, recurses := true, apart := false, narrowed := true }
def GaussSolvesUptoSaid : Prop := gaussSolvesUptoRow.holds Try.pinned (OpenSpec.upto gaussSolvesSpec)

/-- 'mosaiclaw12.GaussTrue', WHERE WHAT IT READS IS OF BULK AT MOST 1048576: true; the input reads as it did. -/
def gaussTrueUptoRow : OpenClaim := { program := "ytgcgnnblgimegaa", sum := "96d6c1935d84bb5fb773d517a3c7c88dca5b4d8b357d3b6de816f5a30caa3296", func := "mosaic/mosaiclaw12.GaussTrue", spec := "gaussTrue", inPlace := ["internal/abi.NoEscape", "internal/bytealg.MakeNoZero"], unfollowed := true, recurses := true, apart := false, narrowed := true }
def GaussTrueUptoSaid : Prop := gaussTrueUptoRow.holds Try.pinned (OpenSpec.upto gaussTrueSpec)

/-- 'mosaiclaw26.InactTrue', WHERE WHAT IT READS IS OF BULK AT MOST 1048576: true; the input reads as it did. -/
def inactTrueUptoRow : OpenClaim := { program := "ytgcgnnblgimegaa", sum := "96d6c1935d84bb5fb773d517a3c7c88dca5b4d8b357d3b6de816f5a30caa3296", func := "mosaic/mosaiclaw26.InactTrue", spec := "inactTrue", inPlace := ["internal/abi.NoEscape", "internal/bytealg.MakeNoZero"], unfollowed := true, recurses := true, apart := false, narrowed := true }
def InactTrueUptoSaid : Prop := inactTrueUptoRow.holds Try.pinned (OpenSpec.upto inactTrueSpec)

/-- 'mosaiclaw26.InactUnknowns', WHERE WHAT IT READS IS OF BULK AT MOST 1048576: true; the input reads as it did. -/
def inactUnknownsUptoRow : OpenClaim := { program := "ytgcgnnblgimegaa", sum := "96d6c1935d84bb5fb773d517a3c7c88dca5b4d8b357d3b6de816f5a30caa3296", func := "mosaic/mosaiclaw26.InactUnknowns", spec := "inactUnknowns", inPlace := ["internal/abi.NoEscape", "internal/bytealg.MakeNoZero"], unfollowed := true, recurses := true, apart := false, narrowed := true }
def InactUnknownsUptoSaid : Prop := inactUnknownsUptoRow.holds Try.pinned (OpenSpec.upto inactUnknownsSpec)

/-- 'mosaiclaw26.InactPeels', WHERE WHAT IT READS IS OF BULK AT MOST 1048576: true; the input reads as it did. -/
def inactPeelsUptoRow : OpenClaim := { program := "ytgcgnnblgimegaa", sum := "96d6c1935d84bb5fb773d517a3c7c88dca5b4d8b357d3b6de816f5a30caa3296", func := "mosaic/mosaiclaw26.InactPeels", spec := "inactPeels", inPlace := ["internal/abi.NoEscape", "internal/bytealg.MakeNoZero"], unfollowed := true, recurses := true, apart := false, narrowed := true }
def InactPeelsUptoSaid : Prop := inactPeelsUptoRow.holds Try.pinned (OpenSpec.upto inactPeelsSpec)

end Rows
end Go.Proofs.Ytgcgnnblgimegaa
