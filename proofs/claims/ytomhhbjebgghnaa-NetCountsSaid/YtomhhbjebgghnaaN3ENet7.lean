/- What the claim on this statement wants of the text YtomhhbjebgghnaaENet7. Not trusted: Lean checks it. -/
import Derived.Test.YtomhhbjebgghnaaN3ENet6
namespace Go.Proofs.Ytomhhbjebgghnaa.P
open Go.RowKit Go.Proofs.YtomhhbjebgghnaaW.PrintWords Go.Proofs.YtomhhbjebgghnaaW.PrintLast Go.Proofs.YtomhhbjebgghnaaW.PrintMore
open Go.Proofs.Ytomhhbjebgghnaa.Emap
set_option linter.unusedVariables false
set_option linter.unusedSimpArgs false
theorem idsOf_all (M : List (Int × S29)) : idsOf M (fun _ => true) = M.map (·.1) := by
  unfold idsOf
  rw [List.filter_eq_self.2 (fun _ _ => rfl)]
theorem all_ids (g b : Nat) (room last : Int) (M : List (Int × S29)) (w : World) (hn : NetAt w g b room last M) (hl : M.length ≤ 1000) (hs : (M.map (·.1)).Pairwise (· < ·)) :
    Calls Try.prog 31 #[.pointer (some ⟨g, 0, none⟩), .func (.func 32) #[] #[]] w fun e w' => ∃ v : Value, e = .returned v ∧ Kd.R (Kd.int .i64) 3 w' w.heap.size (fun _ => True) v (M.map (·.1)) ∧ Below w.heap.size w w' := by
  have := ids32_calls g b room last M (fun _ => true) w hn hl hs (fun y w1 _ => all_calls y w1)
  rwa [idsOf_all] at this
def nthV (M : List (Int × S29)) (i : Int) : Int := if M.length = 0 ∨ i < 0 then 0 else rd (M.map (·.1)) (i % (M.length : Int))
set_option maxHeartbeats 1000000 in
theorem nth_calls (g b : Nat) (room last : Int) (M : List (Int × S29)) (i : Int) (w : World) (hn : NetAt w g b room last M) (hl : M.length ≤ 1000) (hs : (M.map (·.1)).Pairwise (· < ·)) :
    Calls Try.prog 13 #[.pointer (some ⟨g, 0, none⟩), .int .i64 i] w fun e w' => e = .returned (.int .i64 (nthV M i)) ∧ Below w.heap.size w w' := by
  have HI := Aside0.mk (all_ids g b room last M w hn hl hs)
  obtain ⟨L, hL⟩ : ∃ L, L = M.map (·.1) := ⟨_, rfl⟩
  have hll : L.length = M.length := by rw [hL, List.length_map]
  have HV : Aside0 (nthV M i = if L.length = 0 ∨ i < 0 then 0 else rd L (i % (L.length : Int))) := ⟨by unfold nthV; rw [hll, hL]⟩
  rw [← hL] at HI
  have hl1 : L.length ≤ 1000 := by omega
  clear hL hll hn hl hs
  by_cases h0 : L.length = 0
  · have hb : ((L.length : Int) == 0) = true := by simp [h0]
    have HF : Aside0 (nthV M i = 0) := ⟨by rw [HV.out, if_pos (.inl h0)]⟩
    clear h0
    go_enter Try.func13, Try.ntmps13
    go_wp2_with fail
    refine HI.out.mono ?_
    rintro e w' ⟨v, rfl, hr, hB⟩
    obtain ⟨A, c, e⟩ := Kd.R_slice hr
    subst e
    have HB := Aside0.mk hB
    clear hr hB
    go_wp2_with fail
    go_ret
    exact ⟨by rw [HF.out]; rfl, HB.out⟩
  · have hb : ((L.length : Int) == 0) = false := beq_eq_false_iff_ne.2 (by omega)
    by_cases h1 : i < 0
    · have HF : Aside0 (nthV M i = 0) := ⟨by rw [HV.out, if_pos (.inr h1)]⟩
      clear h0
      go_enter Try.func13, Try.ntmps13
      go_wp2_with fail
      refine HI.out.mono ?_
      rintro e w' ⟨v, rfl, hr, hB⟩
      obtain ⟨A, c, e⟩ := Kd.R_slice hr
      subst e
      have HB := Aside0.mk hB
      clear hr hB
      go_wp2_with fail
      go_ret
      exact ⟨by rw [HF.out]; rfl, HB.out⟩
    · have hp : (0 : Int) < L.length := by omega
      have hm0 := Int.emod_nonneg i (show (L.length : Int) ≠ 0 by omega)
      have hm1 := Int.emod_lt_of_pos i hp
      have hi0 : 0 ≤ i := by omega
      have HF : Aside0 (nthV M i = rd L (i % (L.length : Int))) := ⟨by rw [HV.out, if_neg (by omega)]⟩
      have hp2 : (1 : Int) ≤ L.length := by omega
      clear h0
      go_enter Try.func13, Try.ntmps13
      go_wp2_with fail
      refine HI.out.mono ?_
      rintro e w' ⟨v, rfl, hr, hB⟩
      obtain ⟨A, c, e⟩ := Kd.R_slice hr
      subst e
      obtain ⟨ad, e, d0⟩ := Kd.at_int (Kd.R_reads' hr).2.2 (i % (L.length : Int)) hm0 hm1
      subst e
      have HB := Aside0.mk hB
      clear hr hB
      go_wp2_with fail
      go_ret
      exact ⟨by rw [HF.out]; rfl, HB.out⟩
theorem NetAt.at_ {w : World} {g b : Nat} {room last : Int} {M : List (Int × S29)} (h : NetAt w g b room last M) {e : Int × S29} (he : e ∈ M) :
    (Instr.lookup 63 (.map (some b)) (.int .i64 e.1) false).run Try.prog w = .ok (.agg #[.int .i64 e.2.f0, .int .i64 e.2.f1, .string e.2.f2]) w := by
  obtain ⟨es, clock, hm, hE⟩ := h.map
  obtain ⟨k, x⟩ := e
  rcases lookup_ok hE kOk Try.underlying63 hm (hE.ok _ he) (zeroG w) false with ⟨_, h2⟩ | ⟨y, hy, h2⟩
  · exact absurd rfl (h2 _ he)
  · have : y = x := only_one hE.keys hy he
    rw [this] at h2
    exact h2
end Go.Proofs.Ytomhhbjebgghnaa.P
