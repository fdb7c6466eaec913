/- What the claim on this statement wants of the text YtomhhbjebgghnaaRowKit. Not trusted: Lean checks it. -/
import Derived.Test.YtomhhbjebgghnaaRows
import Derived.Test.YtomhhbjebgghnaaN3Px0
import Derived.WalkKit
import Derived.ProofKit
import Derived.OpenShut
import Derived.ShutString
import Derived.ChangeOld
import Derived.Below
import Derived.SizedLaws
import Derived.SliceStrings
import Derived.Deep.Matrix
namespace Go.Proofs.Ytomhhbjebgghnaa.P
open Go.ChangeShapes Go.WideShapes Go.ChangeAt Go.RowKit Go.Proofs.YtomhhbjebgghnaaW.PrintWords
theorem own : ownKnob Try.prog.godebug = none := by kernel_rfl
theorem laidOut : laidOutB Try.prog = true := by kernel_rfl
end Go.Proofs.Ytomhhbjebgghnaa.P
