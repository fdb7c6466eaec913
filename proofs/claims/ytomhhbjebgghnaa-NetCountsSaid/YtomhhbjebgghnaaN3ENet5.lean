/- What the claim on this statement wants of the text YtomhhbjebgghnaaENet5. Not trusted: Lean checks it. -/
import Derived.Test.YtomhhbjebgghnaaN3ENet4
import Derived.Test.YtomhhbjebgghnaaN3ESort
namespace Go.Proofs.Ytomhhbjebgghnaa.P
open Go.RowKit Go.Proofs.YtomhhbjebgghnaaW.PrintWords Go.Proofs.YtomhhbjebgghnaaW.PrintLast Go.Proofs.YtomhhbjebgghnaaW.PrintMore
open Go.Proofs.Ytomhhbjebgghnaa.Emap
set_option linter.unusedVariables false
set_option linter.unusedSimpArgs false
set_option maxHeartbeats 1000000 in
set_option maxRecDepth 100000 in
theorem send_ok (g : Nat) (x : S29) (hb : sendB x = true) (a er : Int) (w : World) (R : World → Prop)
    (hp : ∀ w1, Below w.heap.size w w1 → Calls Try.prog 29 #[.pointer (some ⟨g, 0, none⟩), gV x] w1 fun e w' => e = .returned (.tuple #[.int .i64 a, .int .i64 er]) ∧ R w') :
    Calls Try.prog 9 #[.pointer (some ⟨g, 0, none⟩), gV x] w fun e w' => e = .returned (.tuple #[.int .i64 a, .int .i64 er]) ∧ R w' := by
  have HP := Aside0.mk hp
  rw [show gV x = .agg #[.int .i64 x.f0, .int .i64 x.f1, .string x.f2] from rfl] at HP ⊢
  unfold sendB at hb
  simp only [Bool.and_eq_true] at hb
  obtain ⟨⟨⟨h1, h2⟩, h3⟩, h4⟩ := hb
  have HP1 := Aside0.mk (fun (w : World) => net_peer.calls x.f0 true w (by rw [pB_f, h1]))
  have HP2 := Aside0.mk (fun (w : World) => net_peer.calls x.f1 true w (by rw [pB_f, h2]))
  have h3b : (x.f0 == x.f1) = false := by simpa using h3
  have h4' : decide (400 < (x.f2.size : Int)) = false := decide_eq_false (by have := of_decide_eq_true h4; omega)
  obtain ⟨W, hW⟩ : ∃ W, W = w.alloc (.cells #[.int .i64 x.f0, .int .i64 x.f1, .string x.f2] 29) := ⟨_, rfl⟩
  obtain ⟨g3, hg3⟩ : ∃ g3, g3 = w.heap.size := ⟨_, rfl⟩
  have HX := Aside0.mk (show W.heap[g3]? = some (.cells #[.int .i64 x.f0, .int .i64 x.f1, .string x.f2] 29 (0, 0)) by rw [hW, hg3]; exact heap_alloc_new _ _)
  obtain ⟨y0, y1, y2, -⟩ := cell3n HX.out
  have HBW := Aside0.mk (show Below w.heap.size w W by rw [hW]; exact below_alloc (Below.refl _ w) _)
  clear hp h1 h2 h3 h4
  go_enter Try.func9, Try.ntmps9
  go_upto_region 1 with (fail)
  rw [← hg3, ← hW]
  clear hg3 hW
  go_wp2_with fail
  refine (HP1.out _).mono ?_
  rintro e w1 ⟨rfl, hd⟩
  obtain ⟨z0, z1, z2, -⟩ := cell3n ((hd.below.block g3 (Array.getElem?_eq_some_iff.1 HX.out).1).trans HX.out)
  have HB1 := Aside0.mk (below_step HBW.out hd.below)
  have HX1 := Aside0.mk ((hd.below.block g3 (Array.getElem?_eq_some_iff.1 HX.out).1).trans HX.out)
  clear hd y0 y1 y2
  go_wp2_with fail
  refine (HP2.out _).mono ?_
  rintro e w2 ⟨rfl, hd⟩
  have HB2 := Aside0.mk (below_step HB1.out hd.below)
  obtain ⟨y0, y1, y2, -⟩ := cell3n ((hd.below.block g3 (Array.getElem?_eq_some_iff.1 HX1.out).1).trans HX1.out)
  clear hd z0 z1 z2
  go_wp2_with fail
  refine (HP.out _ HB2.out).mono ?_
  rintro e w3 ⟨rfl, hr⟩
  have HR := Aside0.mk hr
  clear hr
  go_wp2_with fail
  go_ret2
  exact ⟨rfl, HR.out⟩
theorem all_calls (y : S29) (w : World) : Calls Try.prog 32 #[gV y] w fun e w' => e = .returned (.bool true) ∧ Below w.heap.size w w' := by
  unfold gV
  go_enter Try.func32, Try.ntmps32
  go_wp2_with fail
  go_ret
  exact ⟨rfl, below_alloc (Below.refl _ w) _⟩
end Go.Proofs.Ytomhhbjebgghnaa.P
