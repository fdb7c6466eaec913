/- What the claim on this statement wants of the text YtomhhbjebgghnaaPx0. Not trusted: Lean checks it. -/
import Derived.Test.YtomhhbjebgghnaaProg
import Derived.Below
import Derived.Deep.Draws
import Derived.Deep.AppendLies
import Derived.Maps.AppendAt
import Derived.OwnWalk
import Derived.Laws.BytesArg
import Derived.Laws.MakeOwn
import Derived.Laws.OwnMore
import Derived.Deep.OwnRows
import Derived.Tactics
import Derived.Lib.ConvBytes
import Derived.Laws.Slices
import Derived.WalkKit
import Derived.KernelRfl
import Derived.RowKit3
import Derived.Deep.LoopGhost
import Derived.Deep.QuietTactic
import Derived.BigQuiet
import Derived.WideLaws
import Derived.Deep.DeepCutAuto
import Derived.Deep.CutBlock
import Derived.Deep.RegionHeld3
import Derived.Laws.Rows
import Derived.Lib.AppendStr
import Derived.ArgAppend
import Derived.Laws.IdiomCopy
import Derived.OrdersHeld
import Derived.Laws.BitsLemmas
import Derived.RowKit
import Derived.Test.YtomhhbjebgghnaaN2WWords
import Derived.Test.YtomhhbjebgghnaaN2WLast
import Derived.Test.YtomhhbjebgghnaaN2WApart
import Derived.Test.YtomhhbjebgghnaaN2WFoot
import Derived.Test.YtomhhbjebgghnaaN2WKept
import Derived.Test.YtomhhbjebgghnaaN2WShare
import Derived.Test.YtomhhbjebgghnaaN2WN
import Derived.Test.YtomhhbjebgghnaaN2WEqStruct
import Derived.Test.YtomhhbjebgghnaaN2WInv
import Derived.Test.YtomhhbjebgghnaaN2WMore
namespace Go.Proofs.Ytomhhbjebgghnaa.P
open Go.RowKit Go.Proofs.YtomhhbjebgghnaaW.PrintWords Go.Proofs.YtomhhbjebgghnaaW.PrintLast Go.Proofs.YtomhhbjebgghnaaW.PrintMore
attribute [local go_sem] max2_int min2_int max_two min_two max_three min_three max_four min_four   -- for this text's walks alone
set_option linter.unusedVariables false
set_option linter.unusedSimpArgs false
def errW : Option Int → Value
  | none => .nilIface
  | some c => .iface 0 (.int .i64 c)
theorem errW_none : errW none = .nilIface := rfl
theorem errW_some (c : Int) : errW (some c) = .iface 0 (.int .i64 c) := rfl
theorem info3 : (Try.prog.info? 3).map (fun i => (i.zero, i.size, i.bytes)) = some (some (.int .i64 0), 1, 8) := by kernel_rfl
structure S29 where
  f0 : Int
  f1 : Int
  f2 : ByteArray
end Go.Proofs.Ytomhhbjebgghnaa.P
