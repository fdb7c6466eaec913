/- GaussSolves returns true for every input, and the input reads as it did. Conditions: none. -/
import Derived.Test.YtgcgnnblgimegaaK2RdKit
import Derived.Test.YtgcgnnblgimegaaK2ESolvesP
import Derived.Test.YtgcgnnblgimegaaK2Px9
import Derived.Lib.SmallJoins
namespace Go.Proofs.Ytgcgnnblgimegaa.P
open Go.ChangeShapes Go.WideShapes Go.ChangeAt Go.RowKit Go.Proofs.YtgcgnnblgimegaaW.PrintWords Go.Proofs.Ytgcgnnblgimegaa.Rdk
theorem awake_ev : EV (fun k => mosaiclaw12_awake.f k) true := ⟨200, fun _ hk => at_rounds mosaiclaw12_awake.mono hk awake_true⟩
def fewEq (x : S41) : Bool := decide (x.f0.length ≤ 80) && decide (x.f1.size ≤ 100)
def fewEB (n : Int) (l : List S41) : Bool := decide (n ≤ 60) && decide (l.length ≤ 40) && l.all fewEq
theorem fewE_l0 (l : List S41) (hl : l.length ≤ 9223372036854775807) : ∀ (d i : Nat), i + d = l.length → EV (fun k => mosaiclaw12_FewEqns.l0 k l (i : Int)) ((l.drop i).all fewEq)
  | 0, i, h => by
    refine EV.succ ?_
    simp only [mosaiclaw12_FewEqns.l0]
    rw [List.drop_eq_nil_of_le (by omega)]
    exact EV.neg (by omega) (EV.const _)
  | d + 1, i, h => by
    refine EV.succ ?_
    simp only [mosaiclaw12_FewEqns.l0]
    have hi : i < l.length := by omega
    have hr : rd_T41 l (i : Int) = l[i] := by simp [rd_T41, hi]
    rw [hr, List.drop_eq_getElem_cons hi, List.all_cons, wsucc i (by omega)]
    refine EV.pos (by omega) (EV.pos (by omega) ?_)
    unfold fewEq
    by_cases h1 : (l[i].f0.length : Int) > 80
    · refine EV.pos h1 ((EV.const _).to ?_)
      rw [decide_eq_false (show ¬ l[i].f0.length ≤ 80 by omega)]; rfl
    · refine EV.neg h1 ?_
      rw [decide_eq_true (show l[i].f0.length ≤ 80 by omega)]
      by_cases h2 : (l[i].f1.size : Int) > 100
      · refine EV.pos h2 ((EV.const _).to ?_)
        rw [decide_eq_false (show ¬ l[i].f1.size ≤ 100 by omega)]; rfl
      · refine EV.neg h2 ?_
        rw [decide_eq_true (show l[i].f1.size ≤ 100 by omega)]
        exact fewE_l0 l hl d (i + 1) (by omega)
theorem fewE_ev (n : Int) (l : List S41) (hl : l.length ≤ 9223372036854775807) : EV (fun k => mosaiclaw12_FewEqns.f k n l) (fewEB n l) := by
  unfold mosaiclaw12_FewEqns.f fewEB
  have hj : ∀ b : Bool, EV (fun k => mosaiclaw12_FewEqns.j0 k l b) (!b && l.all fewEq) := by
    intro b
    refine EV.succ ?_
    simp only [mosaiclaw12_FewEqns.j0]
    cases b with
    | true => exact EV.pos rfl (EV.const _)
    | false => exact EV.neg (by decide) (fewE_l0 l hl l.length 0 (by omega))
  by_cases h1 : n > 60
  · refine EV.pos h1 ((hj true).to ?_)
    rw [decide_eq_false (show ¬ n ≤ 60 by omega)]; rfl
  · refine EV.neg h1 ((hj _).to ?_)
    rw [decide_eq_true (show n ≤ 60 by omega)]
    by_cases h3 : l.length ≤ 40
    · rw [decide_eq_true h3, decide_eq_false (show ¬ (l.length : Int) > 40 by omega)]; rfl
    · rw [decide_eq_false h3, decide_eq_true (show (l.length : Int) > 40 by omega)]; rfl
def to79 (x : S41) : S79 := ⟨x.f0, x.f1⟩
theorem refs_l0 (l : List S41) (hl : l.length ≤ 400) : ∀ (d i : Nat), i + d = l.length → EV (fun k => mosaiclaw12_Refs.l0 k l ((l.take i).map to79) (i : Int)) (l.map to79)
  | 0, i, h => by
    refine EV.succ ?_
    simp only [mosaiclaw12_Refs.l0]
    rw [List.take_of_length_le (by omega)]
    exact EV.neg (by omega) (EV.const _)
  | d + 1, i, h => by
    refine EV.succ ?_
    simp only [mosaiclaw12_Refs.l0]
    have hi : i < l.length := by omega
    have hr : rd_T41 l (i : Int) = l[i] := by simp [rd_T41, hi]
    have ih := refs_l0 l hl d (i + 1) (by omega)
    rw [List.take_succ_eq_append_getElem hi, List.map_append] at ih
    rw [hr, wsucc i (by omega)]
    exact EV.pos (by omega) (EV.pos (by omega) (EV.pos (by rw [List.length_map, List.length_take]; omega) ih))
theorem same_l0 (l : List ByteArray) (hl : l.length ≤ 9223372036854775807) : ∀ (d i : Nat), i + d = l.length → EV (fun k => mosaicref03_Same.l0 k l l (i : Int)) true
  | 0, i, h => by
    refine EV.succ ?_
    simp only [mosaicref03_Same.l0]
    exact EV.neg (by omega) (EV.const _)
  | d + 1, i, h => by
    refine EV.succ ?_
    simp only [mosaicref03_Same.l0]
    rw [wsucc i (by omega)]
    exact EV.pos (by omega) (EV.pos (by omega) (EV.pos (by omega) (EV.pos (by simp) (same_l0 l hl d (i + 1) (by omega)))))
theorem refSolve_len (a0 a1 : Int) (l : List S41) : (refSolveB a0 a1 l).1.length ≤ 160 := by
  unfold refSolveB
  split
  · rename_i h
    unfold okB at h
    simp only [Bool.and_eq_true] at h
    obtain ⟨p1, p2, p3, p4⟩ := may_parts h.2
    split
    · simp
    · simp only [List.length_map, List.length_range]; omega
  · simp
theorem gaussSolves_ex (a0 a1 : Int) (l : List S41) (hl : l.length ≤ 9223372036854775807) : ∃ k, mosaiclaw12_GaussSolves.f k a0 a1 l = some true := by
  have : EV (fun k => mosaiclaw12_GaussSolves.f k a0 a1 l) true := by
    unfold mosaiclaw12_GaussSolves.f
    refine EV.bind (fewE_ev a0 l hl) ?_
    cases hf : fewEB a0 l with
    | false => exact EV.neg (by decide) (EV.bind awake_ev (EV.const _))
    | true =>
      have h40 : l.length ≤ 40 := by
        unfold fewEB at hf
        simp only [Bool.and_eq_true, decide_eq_true_eq] at hf
        exact hf.1.2
      have hs : gauss_Solve.f a0 a1 l = some (refSolveB a0 a1 l) := by unfold gauss_Solve.f; rw [if_pos (by omega), solve_same]
      have hm : (l.map to79).map to41 = l := by rw [List.map_map]; exact List.map_id _
      have hr : mosaicref12_Solve.f a0 a1 (l.map to79) = some (refSolveB a0 a1 l) := by unfold mosaicref12_Solve.f; rw [if_pos (by rw [List.length_map]; omega), hm]
      refine EV.pos rfl (EV.bind (EV.now hs) (EV.bind (refs_l0 l (by omega) l.length 0 (by omega)) (EV.bind (EV.now hr) (EV.bind awake_ev (EV.pos rfl ?_)))))
      have hlen := refSolve_len a0 a1 l
      refine EV.bind (r := true) ?_ (EV.pos rfl ((EV.const _).to (by simp)))
      unfold mosaicref03_Same.f
      exact EV.pos rfl (same_l0 (refSolveB a0 a1 l).1 (by omega) (refSolveB a0 a1 l).1.length 0 (by omega))
  exact this.ex
theorem rds41 : Rds Try.prog 41 k41 (fun _ => True) := by
  refine ⟨by kernel_rfl, fun H enc w held fuel cs x h => ?_⟩
  have r3 := rds_int (P := Try.prog) Try.underlying3 (by kernel_rfl)
  have r38 := rds_slice (q := 3) Try.underlying38 r3 (by kernel_rfl)
  have r9 := rds_string (P := Try.prog) Try.underlying9 (by kernel_rfl)
  obtain ⟨a, ha, _⟩ := (rds_iso (fun x : S41 => (x.f0, x.f1)) (fun a => ⟨a.1, a.2⟩) (fun _ => rfl) (rds_struct Try.underlying41 (rdsL_cons r38 rfl (rdsL_one r9 rfl)) (by kernel_rfl))).2 H enc w held fuel cs x h
  exact ⟨a, ha, trivial⟩
set_option maxRecDepth 100000 in
theorem gaussSolves_lifted (os : Os) (started : os.Started) (H : Type) (enc : TypeId × Value → H) :
    ReturnsInHanded {} Try.checked os 3 .any (Rows.gaussSolvesSpec.pre6 enc Try.prog Try.f3 Rows.gaussSolvesRow.domain false) (Rows.gaussSolvesSpec.post enc Try.prog Try.f3 false true false false) := by
  refine returnsInHanded_of_change (C := Try.checked) own started (by kernel_rfl) Try.func3
    (ChangeSpec.witness6 (enc := enc) (C := Try.checked) false ⟨#[], #[.int .i64 0, .int .i64 0, .slice none 0 0], []⟩ 8 (by kernel_rfl) (by kernel_rfl) (by kernel_rfl) (by kernel_rfl)) ?_
  intro W base args ds gs before hval0 hW hcnd _
  have hval : ∀ (j : Nat) t v, Try.f3.params[j]? = some t → args[j]? = some v → Value.okWide Try.prog W .any base t v := hval0
  have hW' := hW
  obtain ⟨p, q, hA0, hV, rfl, hfz, hnd⟩ := hW
  have hA : DataW.TrodAll enc Try.prog W 0 (fun _ => true) true Try.f3.params.toList args.toList ds p := hA0
  rw [Try.params3] at hA hval
  obtain ⟨v0, vs0, d0, ds0, p0, q0, hargs, rfl, rfl, h0, r0⟩ := trodAll_cons hA
  obtain ⟨v1, vs1, d1, ds1, p1, q1, rfl, rfl, rfl, h1, r1⟩ := trodAll_cons r0
  obtain ⟨v2, vs2, d2, ds2, p2, q2, rfl, rfl, rfl, h2, r2⟩ := trodAll_cons r1
  obtain ⟨rfl, rfl, rfl⟩ := trodAll_nil r2
  obtain rfl : args = #[v0, v1, v2] := by cases args; simp_all
  obtain ⟨rfl, rfl⟩ := trodVars_none hV
  have k2 := h2
  have lt2 : ∀ x ∈ p2, x.block < W.heap.size := by obtain ⟨m, hm⟩ := k2; exact DataW.trod_lt m _ _ _ hm
  have k0 := h0
  have lt0 : ∀ x ∈ p0, x.block < W.heap.size := by obtain ⟨m, hm⟩ := k0; exact DataW.trod_lt m _ _ _ hm
  have k1 := h1
  have lt1 : ∀ x ∈ p1, x.block < W.heap.size := by obtain ⟨m, hm⟩ := k1; exact DataW.trod_lt m _ _ _ hm
  obtain ⟨a0, rfl, rfl, rfl, w0'⟩ := open_int Try.underlying3 (hval 0 3 v0 rfl rfl) h0
  obtain ⟨a1, rfl, rfl, rfl, w1'⟩ := open_int Try.underlying3 (hval 1 3 v1 rfl rfl) h1
  obtain ⟨a2, len2, cap2, rfl⟩ := okWide_slice Try.underlying22 (hval 2 22 v2 rfl rfl)
  obtain ⟨l2, rfl, hr2, hc2, _⟩ : ∃ l : List S41, len2 = l.length ∧ Kd.C k41 W a2 l.length l ∧ l.length ≤ cap2 ∧ ∀ x ∈ l, True := by
    obtain ⟨fuel, hf⟩ := h2
    exact rds_top Try.underlying22 rds41 hf
  clear hA0 hval0
  obtain ⟨k, hk⟩ := gaussSolves_ex a0 a1 l2 hr2.2.1
  refine (mosaiclaw12_GaussSolves.calls k a0 a1 a2 cap2 l2 true W hr2 hc2 hk rfl).mono fun e W' ⟨he, bel⟩ => ?_
  subst he
  exact ⟨_, rfl, _, _, _, [], _, [], hW', trodAll_mk1 (shut_bool Try.underlying4 _), (trodAll_cons_mk (Below.trod laidOut (by kernel_rfl) (of_decide_eq_true (by kernel_rfl)) k0 bel lt0) (trodAll_cons_mk (Below.trod laidOut (by kernel_rfl) (of_decide_eq_true (by kernel_rfl)) k1 bel lt1) (trodAll_cons_mk (Below.trod laidOut (by kernel_rfl) (of_decide_eq_true (by kernel_rfl)) k2 bel lt2) trodAll_mk0))), rfl, bel.frame _, fun h => by cases h⟩
theorem gaussSolves_over : Rows.GaussSolvesSaid :=
  OpenClaim.holds_of_wide 3 Try.f3 rfl rfl rfl rfl rfl rfl rfl ⟨rfl, rfl, rfl, rfl, rfl⟩ rfl rfl rfl rfl rfl (by kernel_rfl) Try.func3 (by kernel_rfl)
    (of_decide_eq_true (by kernel_rfl)) (by unfold Func.isWrapper; first | (rw [if_pos (by decide +kernel)]; kernel_rfl) | (rw [if_neg (by decide +kernel)]; exact ⟨rfl, rfl⟩))
    (fun os started H enc _ => gaussSolves_lifted os started H enc)
end Go.Proofs.Ytgcgnnblgimegaa.P
namespace Go.Proofs.Ytgcgnnblgimegaa
/-- The row, under a short name, for the claim. -/
theorem gaussSolves_holds : Rows.GaussSolvesSaid := P.gaussSolves_over
end Go.Proofs.Ytgcgnnblgimegaa
