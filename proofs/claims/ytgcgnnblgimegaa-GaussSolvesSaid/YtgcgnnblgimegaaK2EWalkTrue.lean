/- What the claim on this statement wants of the text YtgcgnnblgimegaaEWalkTrue. Not trusted: Lean checks it. -/
import Derived.Test.YtgcgnnblgimegaaK2ETrue
import Derived.Deep.QuietTactic
import Derived.BigQuiet
namespace Go.Proofs.Ytgcgnnblgimegaa.P
open Go.RowKit Go.Proofs.YtgcgnnblgimegaaW.PrintWords Go.Proofs.YtgcgnnblgimegaaW.PrintLast Go.Proofs.YtgcgnnblgimegaaW.PrintMore
open Go.Proofs.Ytgcgnnblgimegaa.Red
set_option linter.unusedVariables false
set_option linter.unusedSimpArgs false
/-- An equation made here: its row came in. -/
structure Eq4 where
  A : Option Addr
  c : Nat
  l : List Int
  b : ByteArray
def eqC (t : Eq4) : List Value := [.slice t.A t.l.length t.c, .string t.b]
def kEq : Kd Eq4 := flat eqC 2 (fun _ => rfl) (fun t u hu => by
  simp [eqC] at hu
  rcases hu with rfl | rfl <;> rfl)
def Eq4.s (t : Eq4) : S41 := ⟨t.l, t.b⟩
def zEq : Eq4 := ⟨none, 0, [], ByteArray.empty⟩
theorem at_eq {w : World} {A : Option Addr} {n : Nat} {xs : List Eq4} (h : kEq.C w A n xs) (i : Nat) (h1 : i < n) :
    ∃ ad, A = some ad ∧ w.cell? (ad.add (i * 2)) = some (.slice (xs.getD i zEq).A (xs.getD i zEq).l.length (xs.getD i zEq).c) ∧ w.cell? ⟨(ad.add (i * 2)).block, (ad.add (i * 2)).off + 1, none⟩ = some (.string (xs.getD i zEq).b) := by
  obtain ⟨ad, c, e, _, hK, hc0⟩ := Kd.C_get h zEq (i : Int) (by omega) (by omega)
  rw [Int.toNat_natCast] at hK hc0
  have hc : ∀ j u, c[j]? = some u → w.cell? (ad.add (i * 2 + j)) = some u := hc0
  obtain rfl : c = eqC (xs.getD i zEq) := hK
  exact ⟨ad, e, hc 0 _ rfl, by rw [← add_field _ _ 1 (by omega)]; exact hc 1 _ rfl⟩
end Go.Proofs.Ytgcgnnblgimegaa.P
