/- What the claim on this statement wants of the text YtaomblcecjaedaaEFolds. Not trusted: Lean checks it. -/
import Derived.Test.YtaomblcecjaedaaK4Px5
import Derived.Test.YtaomblcecjaedaaK4EMay
namespace Go.Proofs.Ytaomblcecjaedaa.P
open Go.RowKit Go.Proofs.YtaomblcecjaedaaW.PrintWords Go.Proofs.YtaomblcecjaedaaW.PrintLast Go.Proofs.YtaomblcecjaedaaW.PrintMore
set_option linter.unusedVariables false
set_option linter.unusedSimpArgs false
def merkle_folds.f (k : Nat) (a0 : Int) (a1 : Int) (a2 : ByteArray) (l3 : List ByteArray) : Option (Int) :=
  (merkle_in.f a0 a1).bind fun t => if t = true then (if (a2.size : Int) = 32 then (merkle_Depth.f k a0 a1).bind fun d => some (if (l3.length : Int) = d then (if l3.any (fun s => decide ((s.size : Int) ≠ 32)) then 3 else 0) else 3) else some 1) else some 1
set_option maxHeartbeats 8000000 in
set_option maxRecDepth 100000 in
theorem merkle_folds.calls (k : Nat) (a0 : Int) (a1 : Int) (a2 : ByteArray) (A3 : Option Addr) (c3 : Nat) (l3 : List ByteArray) (r : Int) (w : World) (hr3 : Kd.C Kd.string w A3 l3.length l3) (hc3 : l3.length ≤ c3) (h : merkle_folds.f k a0 a1 a2 l3 = some r) :
    Calls Try.prog 25 #[.int .i64 a0, .int .i64 a1, .string a2, .slice A3 l3.length c3] w fun e w' => e = .returned (.int .i64 r) ∧ Below w.heap.size w w' := by
  have hmax : l3.length ≤ 9223372036854775807 := hr3.2.1
  have HR := Aside0.mk hr3
  have HC := Aside0.mk hc3
  clear hr3 hc3
  unfold merkle_folds.f at h
  obtain ⟨t, ht, h⟩ := Option.bind_eq_some_iff.mp h
  have HT := Aside0.mk ht
  clear ht
  cases t with
  | false =>
    obtain rfl := Option.some.inj ((if_neg (by decide)).symm.trans h)
    go_enter Try.func25, Try.ntmps25
    go_wp2_with fail
    refine (merkle_in.calls _ _ _ _ HT.out).mono ?_
    rintro e w' ⟨rfl, ⟨nd, rfl⟩⟩
    go_wp2_with fail
    go_ret
    exact ⟨rfl, pw_below_drewN (Below.refl _ _) nd⟩
  | true =>
    have h := (if_pos rfl).symm.trans h
    by_cases h32 : (a2.size : Int) = 32
    · have h := (if_pos h32).symm.trans h
      obtain ⟨d, hd, h⟩ := Option.bind_eq_some_iff.mp h
      have HD := Aside0.mk hd
      have HS := Aside0.mk (short_calls a2)
      have hb : decide ((a2.size : Int) ≠ 32) = false := by simp [h32]
      simp only [hb] at HS
      clear hd hb h32
      by_cases hl : (l3.length : Int) = d
      · have h := Option.some.inj h
        rw [if_pos hl] at h
        have hl1 : ((l3.length : Int) != d) = false := bne_eq_false_iff_eq.mpr hl
        have hl2 : ((l3.length : Int) == d) = true := beq_iff_eq.mpr hl
        have HCF := Aside0.mk (fun w1 hw => containsFunc_calls 40 _ short_calls (enters_of Try.func40 (by kernel_rfl) rfl) A3 c3 l3 w1 hw HC.out)
        clear hl
        cases hany : l3.any (fun s => decide ((s.size : Int) ≠ 32)) with
        | true =>
          rw [hany] at h HCF
          obtain rfl := h
          clear hany
          go_enter Try.func25, Try.ntmps25
          go_wp2_with fail
          refine (merkle_in.calls _ _ _ _ HT.out).mono ?_
          rintro e w' ⟨rfl, ⟨nd, rfl⟩⟩
          go_wp2_with fail
          refine (HS.out _).mono ?_
          rintro e w' ⟨rfl, rfl⟩
          go_wp2_with fail
          refine (merkle_Depth.calls _ _ _ _ _ HD.out).mono ?_
          rintro e w' ⟨rfl, ⟨nd2, rfl⟩⟩
          go_wp2_with fail
          refine (HCF.out _ (by repeat (first | exact HR.out | (with_reducible refine Kd.C_drewN ?_ _)))).mono ?_
          rintro e w' ⟨rfl, rfl⟩
          go_wp2_with fail
          go_ret
          exact ⟨rfl, by repeat (first | exact Below.refl _ _ | apply pw_below_drewN)⟩
        | false =>
          rw [hany] at h HCF
          obtain rfl := h
          clear hany
          go_enter Try.func25, Try.ntmps25
          go_wp2_with fail
          refine (merkle_in.calls _ _ _ _ HT.out).mono ?_
          rintro e w' ⟨rfl, ⟨nd, rfl⟩⟩
          go_wp2_with fail
          refine (HS.out _).mono ?_
          rintro e w' ⟨rfl, rfl⟩
          go_wp2_with fail
          refine (merkle_Depth.calls _ _ _ _ _ HD.out).mono ?_
          rintro e w' ⟨rfl, ⟨nd2, rfl⟩⟩
          go_wp2_with fail
          refine (HCF.out _ (by repeat (first | exact HR.out | (with_reducible refine Kd.C_drewN ?_ _)))).mono ?_
          rintro e w' ⟨rfl, rfl⟩
          go_wp2_with fail
          go_ret
          exact ⟨rfl, by repeat (first | exact Below.refl _ _ | apply pw_below_drewN)⟩
      · have h := Option.some.inj h
        rw [if_neg hl] at h
        obtain rfl := h
        have hl1 : ((l3.length : Int) != d) = true := bne_iff_ne.mpr hl
        have hl2 : ((l3.length : Int) == d) = false := beq_eq_false_iff_ne.mpr hl
        clear hl
        go_enter Try.func25, Try.ntmps25
        go_wp2_with fail
        refine (merkle_in.calls _ _ _ _ HT.out).mono ?_
        rintro e w' ⟨rfl, ⟨nd, rfl⟩⟩
        go_wp2_with fail
        refine (HS.out _).mono ?_
        rintro e w' ⟨rfl, rfl⟩
        go_wp2_with fail
        refine (merkle_Depth.calls _ _ _ _ _ HD.out).mono ?_
        rintro e w' ⟨rfl, ⟨nd2, rfl⟩⟩
        go_wp2_with fail
        go_ret
        exact ⟨rfl, by repeat (first | exact Below.refl _ _ | apply pw_below_drewN)⟩
    · have h := (if_neg h32).symm.trans h
      obtain rfl := Option.some.inj h
      have HS := Aside0.mk (short_calls a2)
      have hb : decide ((a2.size : Int) ≠ 32) = true := by simp [h32]
      simp only [hb] at HS
      clear hb h32
      go_enter Try.func25, Try.ntmps25
      go_wp2_with fail
      refine (merkle_in.calls _ _ _ _ HT.out).mono ?_
      rintro e w' ⟨rfl, ⟨nd, rfl⟩⟩
      go_wp2_with fail
      refine (HS.out _).mono ?_
      rintro e w' ⟨rfl, rfl⟩
      go_wp2_with fail
      go_ret
      exact ⟨rfl, by repeat (first | exact Below.refl _ _ | apply pw_below_drewN)⟩
end Go.Proofs.Ytaomblcecjaedaa.P
