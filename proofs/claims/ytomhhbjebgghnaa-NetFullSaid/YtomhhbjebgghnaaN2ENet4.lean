/- What the claim on this statement wants of the text YtomhhbjebgghnaaENet4. Not trusted: Lean checks it. -/
import Derived.Test.YtomhhbjebgghnaaN2ENet3
namespace Go.Proofs.Ytomhhbjebgghnaa.P
open Go.RowKit Go.Proofs.YtomhhbjebgghnaaW.PrintWords Go.Proofs.YtomhhbjebgghnaaW.PrintLast Go.Proofs.YtomhhbjebgghnaaW.PrintMore
open Go.Proofs.Ytomhhbjebgghnaa.Emap
set_option linter.unusedVariables false
set_option linter.unusedSimpArgs false
set_option maxHeartbeats 1000000 in
set_option maxRecDepth 100000 in
theorem twice_err (ptr : Value) (id er : Int) (her : er ≠ 0) (w : World) (hf : Calls Try.prog 30 #[ptr, .int .i64 id] w fun e w' => e = .returned (.tuple #[gV zG, .int .i64 er]) ∧ Below w.heap.size w w') :
    Calls Try.prog 11 #[ptr, .int .i64 id] w fun e w' => e = .returned (.tuple #[.int .i64 0, .int .i64 er]) ∧ Below w.heap.size w w' := by
  have H := Aside0.mk hf
  rw [show gV zG = .agg #[.int .i64 0, .int .i64 0, .string ⟨#[]⟩] from rfl] at H
  have her' : (er != 0) = true := by simpa using her
  clear hf her
  go_enter Try.func11, Try.ntmps11
  go_wp2_with fail
  refine H.out.mono ?_
  rintro e w1 ⟨rfl, hb⟩
  have HB := Aside0.mk hb
  clear hb
  go_wp2_with fail
  go_ret2
  exact ⟨rfl, below_alloc HB.out _⟩
set_option maxHeartbeats 1000000 in
set_option maxRecDepth 100000 in
theorem twice_ok (ptr : Value) (id : Int) (x : S29) (a er : Int) (w : World) (R : World → Prop) (hf : Calls Try.prog 30 #[ptr, .int .i64 id] w fun e w' => e = .returned (.tuple #[gV x, .int .i64 0]) ∧ Below w.heap.size w w')
    (hp : ∀ w1, Below w.heap.size w w1 → Calls Try.prog 29 #[ptr, gV x] w1 fun e w' => e = .returned (.tuple #[.int .i64 a, .int .i64 er]) ∧ R w') :
    Calls Try.prog 11 #[ptr, .int .i64 id] w fun e w' => e = .returned (.tuple #[.int .i64 a, .int .i64 er]) ∧ R w' := by
  have H := Aside0.mk hf
  have HP := Aside0.mk hp
  rw [show gV x = .agg #[.int .i64 x.f0, .int .i64 x.f1, .string x.f2] from rfl] at H HP
  clear hf hp
  go_enter Try.func11, Try.ntmps11
  go_wp2_with fail
  refine H.out.mono ?_
  rintro e w1 ⟨rfl, hb⟩
  obtain ⟨W2, hW2⟩ : ∃ W2, W2 = w1.alloc (.cells #[.int .i64 x.f0, .int .i64 x.f1, .string x.f2] 29) := ⟨_, rfl⟩
  have HB := Aside0.mk (show Below w.heap.size w W2 by rw [hW2]; exact below_alloc hb _)
  obtain ⟨g6, hg6⟩ : ∃ g6, g6 = w1.heap.size := ⟨_, rfl⟩
  obtain ⟨y0, y1, y2, yf⟩ := cell3n (show W2.heap[g6]? = some (.cells #[.int .i64 x.f0, .int .i64 x.f1, .string x.f2] 29 (0, 0)) by rw [hW2, hg6]; exact heap_alloc_new _ _)
  clear hb H
  go_upto_region 2 with (fail)
  rw [← hg6, ← hW2]
  clear hg6 hW2
  go_wp2_with fail
  refine (HP.out _ HB.out).mono ?_
  rintro e w3 ⟨rfl, hr⟩
  have HR := Aside0.mk hr
  clear hr
  go_wp2_with fail
  go_ret2
  exact ⟨rfl, HR.out⟩
def pB (a : Int) : Bool := decide (1 ≤ a) && decide (a ≤ 15)
theorem pB_f (a : Int) : net_peer.f a = some (pB a) := by
  unfold net_peer.f pB
  by_cases h : a ≥ 1
  · rw [if_pos h, decide_eq_true (show 1 ≤ a from h)]; rfl
  · rw [if_neg h, decide_eq_false (show ¬ 1 ≤ a from h)]; rfl
def sendB (x : S29) : Bool := pB x.f0 && pB x.f1 && !(x.f0 == x.f1) && decide (x.f2.size ≤ 400)
end Go.Proofs.Ytomhhbjebgghnaa.P
