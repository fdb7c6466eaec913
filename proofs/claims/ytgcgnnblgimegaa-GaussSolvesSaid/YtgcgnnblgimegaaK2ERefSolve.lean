/- What the claim on this statement wants of the text YtgcgnnblgimegaaERefSolve. Not trusted: Lean checks it. -/
import Derived.Test.YtgcgnnblgimegaaK2ERefReduce
import Derived.Test.YtgcgnnblgimegaaK2Px7
namespace Go.Proofs.Ytgcgnnblgimegaa.P
open Go.RowKit Go.Proofs.YtgcgnnblgimegaaW.PrintWords Go.Proofs.YtgcgnnblgimegaaW.PrintLast Go.Proofs.YtgcgnnblgimegaaW.PrintMore
open Go.Proofs.Ytgcgnnblgimegaa.Red
set_option linter.unusedVariables false
set_option linter.unusedSimpArgs false
def to41 (x : S79) : S41 := ⟨x.f0, x.f1⟩
def pickB (L : List S41) (i : Int) : ByteArray := L.foldl (fun b x => if x.f0.length = 1 ∧ rd x.f0 0 = i then x.f1 else b) ⟨#[]⟩
def okB (a0 a1 : Int) (l : List S41) : Bool := decide (1 ≤ a1) && decide (a1 ≤ 64) && l.all (fun x => ((x.f1.size : Int) == a1)) && mayB a0 (l.map (fun x : S41 => x.f0))
def nzT (zb b : ByteArray) : Bool := !(b.toList == zb.toList)
def refSolveB (a0 a1 : Int) (l : List S41) : List ByteArray × Int :=
  if okB a0 a1 l then
    if (redR a0.toNat l).2.any (nzT (zeroB a1.toNat)) then ([], 9)
    else ((List.range a0.toNat).map (fun i : Nat => pickB (redR a0.toNat l).1 (i : Int)), 0)
  else ([], 1)
theorem refMay_l1 (n : Int) (l : List (List Int)) (hl : l.length ≤ 9223372036854775807) (j : Nat) (hj : j < l.length) (r : List Int) (hr : rd_L1 l (j : Int) = r) (hrl : r.length ≤ 9223372036854775807) (b : Bool)
    (hn : EV (fun k => mosaicref12_May.l0 k n l ((j + 1 : Nat) : Int)) b) : ∀ (d i : Nat), i + d = r.length → EV (fun k => mosaicref12_May.l1 k n l (j : Int) (i : Int)) (allFrom (mayAt n r) d i && b)
  | 0, i, h => by
    refine EV.succ ?_
    simp only [mosaicref12_May.l1]
    rw [hr]
    refine EV.pos (by omega) (EV.pos (by omega) (EV.neg (by omega) ?_))
    rw [wsucc j (by omega)]
    exact hn
  | d + 1, i, h => by
    refine EV.succ ?_
    simp only [mosaicref12_May.l1]
    rw [hr]
    have ih := refMay_l1 n l hl j hj r hr hrl b hn d (i + 1) (by omega)
    refine EV.pos (by omega) (EV.pos (by omega) (EV.pos (by omega) (EV.pos (by omega) ?_)))
    rw [wsucc i (by omega)]
    unfold allFrom mayAt
    by_cases h1 : rd r (i : Int) < 0
    · refine EV.pos h1 ?_
      rw [decide_eq_false (show ¬ 0 ≤ rd r (i : Int) by omega)]
      exact EV.const _
    · refine EV.neg h1 ?_
      rw [decide_eq_true (show 0 ≤ rd r (i : Int) by omega)]
      by_cases h2 : rd r (i : Int) ≥ n
      · refine EV.pos h2 ?_
        rw [decide_eq_false (show ¬ rd r (i : Int) < n by omega)]
        simp only [Bool.true_and, Bool.false_and]
        exact EV.const _
      · refine EV.neg h2 ?_
        rw [decide_eq_true (show rd r (i : Int) < n by omega)]
        by_cases h3 : (i : Int) > 0
        · refine EV.pos h3 ?_
          rw [w64 ((i : Int) - 1) (by omega) (by omega)]
          refine EV.pos (by omega) (EV.pos (by omega) ?_)
          by_cases h4 : rd r (i : Int) ≤ rd r ((i : Int) - 1)
          · refine EV.pos h4 ?_
            rw [decide_eq_false (show ¬ rd r ((i : Int) - 1) < rd r (i : Int) by omega), decide_eq_false (show ¬ i = 0 by omega)]
            simp only [Bool.true_and, Bool.false_and, Bool.or_false]
            exact EV.const _
          · refine EV.neg h4 ?_
            rw [decide_eq_true (show rd r ((i : Int) - 1) < rd r (i : Int) by omega)]
            simp only [Bool.true_and, Bool.or_true]
            exact ih
        · refine EV.neg h3 ?_
          rw [decide_eq_true (show i = 0 by omega)]
          simp only [Bool.true_and, Bool.true_or]
          exact ih
theorem refMay_l0 (n : Int) (l : List (List Int)) (hl : l.length ≤ 9223372036854775807) (hrl : ∀ r ∈ l, r.length ≤ 9223372036854775807) : ∀ (d j : Nat), j + d = l.length → EV (fun k => mosaicref12_May.l0 k n l (j : Int)) ((l.drop j).all (mayRowB n))
  | 0, j, h => by
    refine EV.succ ?_
    simp only [mosaicref12_May.l0]
    rw [List.drop_eq_nil_of_le (by omega)]
    exact EV.neg (by omega) (EV.const _)
  | d + 1, j, h => by
    refine EV.succ ?_
    simp only [mosaicref12_May.l0]
    refine EV.pos (by omega) ?_
    have ih := refMay_l0 n l hl hrl d (j + 1) (by omega)
    have hj : j < l.length := by omega
    have hr : rd_L1 l (j : Int) = l[j] := by simp [rd_L1, hj]
    have := refMay_l1 n l hl j hj l[j] hr (hrl _ (List.getElem_mem hj)) _ ih (l[j]).length 0 (by omega)
    rw [List.drop_eq_getElem_cons hj, List.all_cons]
    exact this
theorem refMay_ev (n : Int) (l : List (List Int)) (hl : l.length ≤ 9223372036854775807) (hrl : ∀ r ∈ l, r.length ≤ 9223372036854775807) : EV (fun k => mosaicref12_May.f k n l) (mayB n l) := by
  unfold mosaicref12_May.f mayB
  have hj : ∀ b : Bool, EV (fun k => mosaicref12_May.j0 k n l b) (!b && l.all (mayRowB n)) := by
    intro b
    refine EV.succ ?_
    simp only [mosaicref12_May.j0]
    cases b with
    | true => exact EV.pos rfl (EV.const _)
    | false => exact EV.neg (by decide) (refMay_l0 n l hl hrl l.length 0 (by omega))
  by_cases h1 : n < 0
  · refine EV.pos h1 ((hj true).to ?_)
    rw [decide_eq_false (show ¬ 0 ≤ n by omega)]; rfl
  · refine EV.neg h1 ?_
    rw [decide_eq_true (show 0 ≤ n by omega)]
    by_cases h2 : n > 160
    · refine EV.pos h2 ((hj true).to ?_)
      rw [decide_eq_false (show ¬ n ≤ 160 by omega)]; rfl
    · refine EV.neg h2 ((hj _).to ?_)
      rw [decide_eq_true (show n ≤ 160 by omega)]
      by_cases h3 : l.length ≤ 400
      · rw [decide_eq_true h3, decide_eq_false (show ¬ (l.length : Int) > 400 by omega)]; rfl
      · rw [decide_eq_false h3, decide_eq_true (show (l.length : Int) > 400 by omega)]; rfl
end Go.Proofs.Ytgcgnnblgimegaa.P
