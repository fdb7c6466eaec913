/- What the claim on this statement wants of the text YtomhhbjebgghnaaWInv. Not trusted: Lean checks it. -/
import Derived.Test.YtomhhbjebgghnaaN3WLast
import Derived.Test.YtomhhbjebgghnaaN3WWords
namespace Go.Proofs.YtomhhbjebgghnaaW.PrintLast
/-- Number i is listed too. -/
def up (b : Nat → Bool) (i : Nat) : Nat → Bool := fun j => if j = i then true else b j
section
variable {P : Program} {ops : Array Oper} {Q : Exit → Act → World → Prop} {md : Region.Mode} {T : Bool × List (List Nat × List Nat)} {B : List Nat} {O : List Nat} {b : Nat → Bool} {i j n : Nat}
end
end Go.Proofs.YtomhhbjebgghnaaW.PrintLast
