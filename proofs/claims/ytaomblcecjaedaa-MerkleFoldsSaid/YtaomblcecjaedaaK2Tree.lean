/- What the claim on this statement wants of the text YtaomblcecjaedaaTree. Not trusted: Lean checks it. -/
import Derived.Test.YtaomblcecjaedaaK2Px0
namespace Go.Proofs.Ytaomblcecjaedaa.P
/-- The text of a leaf. -/
def lf (x : ByteArray) : ByteArray := (⟨#[0]⟩ : ByteArray) ++ x
/-- The text of a knot. -/
def kt (a b : ByteArray) : ByteArray := ((⟨#[1]⟩ : ByteArray) ++ a) ++ b
section
variable (H : ByteArray → ByteArray) (xs : List ByteArray)
def pairsS : List ByteArray → List ByteArray
  | a :: b :: r => H (kt a b) :: pairsS r
  | [a] => [a]
  | [] => []
def rootS : Nat → List ByteArray → ByteArray
  | 0, _ => ByteArray.empty
  | f + 1, ds => if ds.length = 1 then ds.getD 0 ByteArray.empty else rootS f (pairsS H ds)
/-- Whether the path's knot stands at the left, level by level. -/
def sides : Nat → Nat → Nat → List Bool
  | 0, _, _ => []
  | f + 1, n, i => if n ≤ 1 then [] else if (i ^^^ 1) < n then (i % 2 == 1) :: sides f ((n + 1) / 2) (i / 2) else sides f ((n + 1) / 2) (i / 2)
def pathS : Nat → List ByteArray → Nat → List ByteArray
  | 0, _, _ => []
  | f + 1, ds, i => if ds.length ≤ 1 then [] else if (i ^^^ 1) < ds.length then ds.getD (i ^^^ 1) ByteArray.empty :: pathS f (pairsS H ds) (i / 2) else pathS f (pairsS H ds) (i / 2)
def cl : List Bool → ByteArray → List ByteArray → ByteArray × List ByteArray
  | s :: ss, d, p :: ps => ((cl ss (H (if s then kt p d else kt d p)) ps).1, (if s then kt p d else kt d p) :: (cl ss (H (if s then kt p d else kt d p)) ps).2)
  | [], d, _ => (d, [])
  | _ :: _, d, [] => (d, [])
def halfF : Nat → Nat → Nat → Nat
  | 0, _, x => x
  | f + 1, n, x => if 2 * x < n then halfF f n (2 * x) else x
/-- The greatest power of two below a number. -/
def half (n : Nat) : Nat := halfF 9 n 1
theorem halfF_lt : ∀ (f n x : Nat), 0 < x → 0 < halfF f n x ∧ (x < n → halfF f n x < n)
  | 0, n, x, h => ⟨h, fun h => h⟩
  | f + 1, n, x, h => by
    unfold halfF
    split
    · rename_i h2
      obtain ⟨h3, h4⟩ := halfF_lt f n (2 * x) (by omega)
      exact ⟨h3, fun _ => h4 h2⟩
    · exact ⟨h, fun h => h⟩
theorem half_lt (n : Nat) : 0 < half n ∧ (1 < n → half n < n) := halfF_lt 9 n 1 (by decide)
end
end Go.Proofs.Ytaomblcecjaedaa.P
