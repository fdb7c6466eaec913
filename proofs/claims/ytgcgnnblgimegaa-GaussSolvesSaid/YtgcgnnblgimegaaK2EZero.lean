/- What the claim on this statement wants of the text YtgcgnnblgimegaaEZero. Not trusted: Lean checks it. -/
import Derived.Test.YtgcgnnblgimegaaK2Px3
import Derived.Test.YtgcgnnblgimegaaK2Shelf
namespace Go.Proofs.Ytgcgnnblgimegaa.P
open Go.RowKit Go.Proofs.YtgcgnnblgimegaaW.PrintWords Go.Proofs.YtgcgnnblgimegaaW.PrintLast Go.Proofs.YtgcgnnblgimegaaW.PrintMore
set_option linter.unusedVariables false
set_option linter.unusedSimpArgs false
def zeroB (n : Nat) : ByteArray := ⟨(Lib.repeatL [0] n).toArray⟩
theorem zeroB_size (n : Nat) : (zeroB n).size = n := by
  show (Lib.repeatL [0] n).toArray.size = n
  rw [List.size_toArray, Lib.repeatL_length]
  simp
theorem zero_calls (n : Nat) (hn : n ≤ 64) (w : World) : Calls Try.prog 50 #[.string ⟨#[0]⟩, .int .i64 n] w fun e w' => e = .returned (.string (zeroB n)) ∧ Below w.heap.size w w' :=
  Try.strings_Repeat ⟨#[0]⟩ n w (by omega) (by show 1 * n ≤ _; omega)
def block_Zero.f (a0 : Int) : Option ByteArray := some (if 1 ≤ a0 ∧ a0 ≤ 64 then zeroB a0.toNat else ⟨#[]⟩)
set_option maxHeartbeats 1000000 in
set_option maxRecDepth 100000 in
theorem block_Zero.calls (a0 : Int) (r : ByteArray) (w : World) (h : block_Zero.f a0 = some r) :
    Calls Try.prog 21 #[.int .i64 a0] w fun e w' => e = .returned (.string r) ∧ Below w.heap.size w w' := by
  have h := Option.some.inj h
  by_cases h1 : 1 ≤ a0 ∧ a0 ≤ 64
  · rw [if_pos h1] at h
    obtain ⟨n, rfl⟩ : ∃ n : Nat, a0 = (n : Int) := ⟨a0.toNat, by omega⟩
    have hm : block_may.f (n : Int) = some true := by unfold block_may.f; rw [if_pos (by omega), decide_eq_true (by omega)]
    have HM := Aside0.mk (block_may.calls (n : Int) true w hm)
    have HZ := Aside0.mk (zero_calls n (by omega))
    have HR : Aside0 (zeroB n = r) := ⟨by rw [← h, Int.toNat_natCast]⟩
    clear h h1 hm
    go_enter Try.func21, Try.ntmps21
    go_wp2_with fail
    refine HM.out.mono ?_
    rintro e w1 ⟨rfl, hb⟩
    have HB : Aside0 (Below w.heap.size w w1) := ⟨by first | exact hb.below | (obtain ⟨m, rfl⟩ := hb; exact pw_below_drewN (Below.refl _ _) m) | (obtain ⟨m, rfl⟩ := hb.out; exact pw_below_drewN (Below.refl _ _) m) | exact hb⟩
    clear hb HM
    go_wp2_with fail
    refine (HZ.out _).mono ?_
    rintro e w2 ⟨rfl, hb2⟩
    have HB2 := Aside0.mk (below_step HB.out hb2)
    clear hb2 HZ
    go_wp2_with fail
    go_ret
    exact ⟨by rw [← HR.out]; rfl, HB2.out⟩
  · rw [if_neg h1] at h
    subst h
    have hm : block_may.f a0 = some false := by
      unfold block_may.f
      by_cases h2 : a0 ≥ 1
      · rw [if_pos h2, decide_eq_false (by omega)]
      · rw [if_neg h2]
    have HM := Aside0.mk (block_may.calls a0 false w hm)
    clear h1 hm
    go_enter Try.func21, Try.ntmps21
    go_wp2_with fail
    refine HM.out.mono ?_
    rintro e w1 ⟨rfl, hb⟩
    have HB : Aside0 (Below w.heap.size w w1) := ⟨by first | exact hb.below | (obtain ⟨m, rfl⟩ := hb; exact pw_below_drewN (Below.refl _ _) m) | (obtain ⟨m, rfl⟩ := hb.out; exact pw_below_drewN (Below.refl _ _) m) | exact hb⟩
    clear hb HM
    go_wp2_with fail
    go_ret
    exact ⟨rfl, HB.out⟩
end Go.Proofs.Ytgcgnnblgimegaa.P
