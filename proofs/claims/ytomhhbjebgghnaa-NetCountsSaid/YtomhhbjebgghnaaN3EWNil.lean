/- What the claim on this statement wants of the text YtomhhbjebgghnaaEWNil. Not trusted: Lean checks it. -/
import Derived.Test.YtomhhbjebgghnaaN3ENet8
namespace Go.Proofs.Ytomhhbjebgghnaa.P
open Go.RowKit Go.Proofs.YtomhhbjebgghnaaW.PrintWords Go.Proofs.YtomhhbjebgghnaaW.PrintLast Go.Proofs.YtomhhbjebgghnaaW.PrintMore
open Go.Proofs.Ytomhhbjebgghnaa.Emap
set_option linter.unusedVariables false
set_option linter.unusedSimpArgs false
theorem cell5 {w : World} {g : Nat} {a b c d e : Value} {t : TypeId} (h : w.heap[g]? = some (.cells #[a, b, c, d, e] t (0, 0))) :
    w.cell? ⟨g, 0, none⟩ = some a ∧ w.cell? ⟨g, 1, none⟩ = some b ∧ w.cell? ⟨g, 2, none⟩ = some c ∧ w.cell? ⟨g, 3, none⟩ = some d ∧ w.cell? ⟨g, 4, none⟩ = some e := by
  refine ⟨?_, ?_, ?_, ?_, ?_⟩ <;> simp only [World.cell?, h] <;> rfl
end Go.Proofs.Ytomhhbjebgghnaa.P
