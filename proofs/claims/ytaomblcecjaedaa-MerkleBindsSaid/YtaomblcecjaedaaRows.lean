/-
  No cell of these rows narrows 'for every input' (looked for: loops, veiled, ifaces, maps, wideKeys, modest, calm, conditions, laid).
  DERIVED. THE GIVEN ROWS OF THIS SEAT. 4 by the template 'for every input the law returns true; each argument reads behind the call as it read before'; 0 by the template 'total and deterministic' (their statements: YtaomblcecjaedaaTotals.lean).
  GIVEN WITH THE SEED: the statements are not yours to turn. If you find one false, say at which input.
  Laid BY PROGRAM, IN A SANDBOX (cutbox-rows.mjs): the forced cells as the released guide's own fill.sh prints them over the translation 037abd4b9014c13f… (all of the seat's roots in one cut). By AI agents, Wed Nov 11 2026. No macro, syntax, notation, axiom, sorry.
-/
import Derived.Test.YtaomblcecjaedaaChecked
import GoSem.Claim
import GoSem.ClaimJoined
import GoSem.ClaimMapViews
import Derived.JoinedTies
import Derived.KernelRfl
namespace Go.Proofs.Ytaomblcecjaedaa
/- THE CELL 'sum', in the pinned program and in every row, IS THE sha256 OF THE DUMP (.gsa) THAT YtaomblcecjaedaaProg.lean LOADS. Nothing in Lean hashes anything: it is a label: what it is worth is what the hold of that sum in a sandbox is worth. -/
noncomputable def Try.pinned : Pinned := { name := "ytaomblcecjaedaa", sum := "037abd4b9014c13f136c4c821038853d42d583cd83fbc6e1ce0cd947cac8025f", checked := Try.checked }
namespace Rows
def none {H : Type} : Left H := { results := [], args := [] }

/-- 'mosaiclaw03.MerkleFolds': WHATEVER THE INPUT: true; the input reads as it did. -/
def merkleFoldsSpec : ChangeSpec := { name := "merkleFolds", fn := fun _ => fun
  | [d1, d2, d3] => { results := [.lit (.bool true)], args := [d1, d2, d3] }
  | _ => none }
def merkleFoldsRow : OpenClaim := { program := "ytaomblcecjaedaa", sum := "037abd4b9014c13f136c4c821038853d42d583cd83fbc6e1ce0cd947cac8025f", func := "mosaic/mosaiclaw03.MerkleFolds", spec := "merkleFolds", unfollowed := true, recurses := true, apart := false }
def MerkleFoldsSaid : Prop := merkleFoldsRow.holds Try.pinned (OpenSpec.ofChange merkleFoldsSpec)

/-- ITS FALSE NEIGHBOUR: 'it returns false'. Refute it at one input. -/
def merkleFoldsWrong : ChangeSpec := { name := "merkleFolds", fn := fun _ => fun
  | [d1, d2, d3] => { results := [.lit (.bool false)], args := [d1, d2, d3] }
  | _ => none }
def MerkleFoldsWrongFalsely : Prop := merkleFoldsRow.holds Try.pinned (OpenSpec.ofChange merkleFoldsWrong)

/-- 'mosaiclaw03.MerkleProves': WHATEVER THE INPUT: true; the input reads as it did. -/
def merkleProvesSpec : ChangeSpec := { name := "merkleProves", fn := fun _ => fun
  | [d1, d2] => { results := [.lit (.bool true)], args := [d1, d2] }
  | _ => none }
def merkleProvesRow : OpenClaim := { program := "ytaomblcecjaedaa", sum := "037abd4b9014c13f136c4c821038853d42d583cd83fbc6e1ce0cd947cac8025f", func := "mosaic/mosaiclaw03.MerkleProves", spec := "merkleProves", unfollowed := true, recurses := true, apart := false }
def MerkleProvesSaid : Prop := merkleProvesRow.holds Try.pinned (OpenSpec.ofChange merkleProvesSpec)

/-- ITS FALSE NEIGHBOUR: 'it returns false'. Refute it at one input. -/
def merkleProvesWrong : ChangeSpec := { name := "merkleProves", fn := fun _ => fun
  | [d1, d2] => { results := [.lit (.bool false)], args := [d1, d2] }
  | _ => none }
def MerkleProvesWrongFalsely : Prop := merkleProvesRow.holds Try.pinned (OpenSpec.ofChange merkleProvesWrong)

/-- 'mosaiclaw03.MerkleDigests': WHATEVER THE INPUT: true; the input reads as it did. -/
def merkleDigestsSpec : ChangeSpec := { name := "merkleDigests", fn := fun _ => fun
  | [d1, d2, d3] => { results := [.lit (.bool true)], args := [d1, d2, d3] }
  | _ => none }
def merkleDigestsRow : OpenClaim := { program := "ytaomblcecjaedaa", sum := "037abd4b9014c13f136c4c821038853d42d583cd83fbc6e1ce0cd947cac8025f", func := "mosaic/mosaiclaw03.MerkleDigests", spec := "merkleDigests", unfollowed := true, recurses := true, apart := false }
def MerkleDigestsSaid : Prop := merkleDigestsRow.holds Try.pinned (OpenSpec.ofChange merkleDigestsSpec)

/-- ITS FALSE NEIGHBOUR: 'it returns false'. Refute it at one input. -/
def merkleDigestsWrong : ChangeSpec := { name := "merkleDigests", fn := fun _ => fun
  | [d1, d2, d3] => { results := [.lit (.bool false)], args := [d1, d2, d3] }
  | _ => none }
def MerkleDigestsWrongFalsely : Prop := merkleDigestsRow.holds Try.pinned (OpenSpec.ofChange merkleDigestsWrong)

/-- 'mosaiclaw03.MerkleBinds': WHATEVER THE INPUT: true; the input reads as it did. -/
def merkleBindsSpec : ChangeSpec := { name := "merkleBinds", fn := fun _ => fun
  | [d1, d2, d3] => { results := [.lit (.bool true)], args := [d1, d2, d3] }
  | _ => none }
def merkleBindsRow : OpenClaim := { program := "ytaomblcecjaedaa", sum := "037abd4b9014c13f136c4c821038853d42d583cd83fbc6e1ce0cd947cac8025f", func := "mosaic/mosaiclaw03.MerkleBinds", spec := "merkleBinds", unfollowed := true, recurses := true, apart := false }
def MerkleBindsSaid : Prop := merkleBindsRow.holds Try.pinned (OpenSpec.ofChange merkleBindsSpec)

/-- ITS FALSE NEIGHBOUR: 'it returns false'. Refute it at one input. -/
def merkleBindsWrong : ChangeSpec := { name := "merkleBinds", fn := fun _ => fun
  | [d1, d2, d3] => { results := [.lit (.bool false)], args := [d1, d2, d3] }
  | _ => none }
def MerkleBindsWrongFalsely : Prop := merkleBindsRow.holds Try.pinned (OpenSpec.ofChange merkleBindsWrong)

/- THE SECOND FORM. 'bulk': how many values and letters a reading holds, each counted each time it is reached (what is shared counts as often as it is met; a slice's spare places count too). A statement '..UptoSaid' is the law's where the arguments, and the package variables that the reading takes, are together of bulk at most 1048576: NARROWER than '..Said'. Prove '..Said' where nothing that the law and all that it calls make is longer than what came in: it says more and counts as full. Else prove '..UptoSaid'. A law counts once. -/
mutual
def uptoBulk {H : Type} : DataW H → Nat
  | .lit (.string bytes) => bytes.length + 1
  | .lit _ => 1
  | .nil => 1
  | .ptr d => uptoBulk d + 1
  | .slice elems spare => uptoBulkAll elems + uptoBulkAll spare + 1
  | .agg parts => uptoBulkAll parts + 1
  | .iface _ d => uptoBulk d + 1
  | .map entries => uptoBulkEntries entries + 1
  | .held _ => 1
def uptoBulkAll {H : Type} : List (DataW H) → Nat
  | [] => 0
  | d :: r => uptoBulk d + uptoBulkAll r
def uptoBulkEntries {H : Type} : List (Lit × DataW H) → Nat
  | [] => 0
  | x :: r => uptoBulkEntry x + uptoBulkEntries r
def uptoBulkEntry {H : Type} : Lit × DataW H → Nat
  | (.string bytes, d) => bytes.length + uptoBulk d + 1
  | (_, d) => uptoBulk d + 1
 end
def uptoSmall : (H : Type) → List (DataW H) → Bool := fun _ ds => decide (uptoBulkAll ds ≤ 1048576)
def OpenSpec.upto (s : _root_.Go.ChangeSpec) : _root_.Go.OpenSpec := { _root_.Go.OpenSpec.ofChange s with cond := some uptoSmall }

/-- 'mosaiclaw03.MerkleFolds', WHERE WHAT IT READS IS OF BULK AT MOST 1048576: true; the input reads as it did. -/
def merkleFoldsUptoRow : OpenClaim := { program := "ytaomblcecjaedaa", sum := "037abd4b9014c13f136c4c821038853d42d583cd83fbc6e1ce0cd947cac8025f", func := "mosaic/mosaiclaw03.MerkleFolds", spec := "merkleFolds", unfollowed := true, recurses := true, apart := false, narrowed := true }
def MerkleFoldsUptoSaid : Prop := merkleFoldsUptoRow.holds Try.pinned (OpenSpec.upto merkleFoldsSpec)

/-- 'mosaiclaw03.MerkleProves', WHERE WHAT IT READS IS OF BULK AT MOST 1048576: true; the input reads as it did. -/
def merkleProvesUptoRow : OpenClaim := { program := "ytaomblcecjaedaa", sum := "037abd4b9014c13f136c4c821038853d42d583cd83fbc6e1ce0cd947cac8025f", func := "mosaic/mosaiclaw03.MerkleProves", spec := "merkleProves", unfollowed := true, recurses := true, apart := false, narrowed := true }
def MerkleProvesUptoSaid : Prop := merkleProvesUptoRow.holds Try.pinned (OpenSpec.upto merkleProvesSpec)

/-- 'mosaiclaw03.MerkleDigests', WHERE WHAT IT READS IS OF BULK AT MOST 1048576: true; the input reads as it did. -/
def merkleDigestsUptoRow : OpenClaim := { program := "ytaomblcecjaedaa", sum := "037abd4b9014c13f136c4c821038853d42d583cd83fbc6e1ce0cd947cac8025f", func := "mosaic/mosaiclaw03.MerkleDigests", spec := "merkleDigests", unfollowed := true, recurses := true, apart := false, narrowed := true }
def MerkleDigestsUptoSaid : Prop := merkleDigestsUptoRow.holds Try.pinned (OpenSpec.upto merkleDigestsSpec)

/-- 'mosaiclaw03.MerkleBinds', WHERE WHAT IT READS IS OF BULK AT MOST 1048576: true; the input reads as it did. -/
def merkleBindsUptoRow : OpenClaim := { program := "ytaomblcecjaedaa", sum := "037abd4b9014c13f136c4c821038853d42d583cd83fbc6e1ce0cd947cac8025f", func := "mosaic/mosaiclaw03.MerkleBinds", spec := "merkleBinds", unfollowed := true, recurses := true, apart := false, narrowed := true }
def MerkleBindsUptoSaid : Prop := merkleBindsUptoRow.holds Try.pinned (OpenSpec.upto merkleBindsSpec)

end Rows
end Go.Proofs.Ytaomblcecjaedaa
