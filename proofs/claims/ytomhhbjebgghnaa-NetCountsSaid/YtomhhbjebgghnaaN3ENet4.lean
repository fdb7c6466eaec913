/- What the claim on this statement wants of the text YtomhhbjebgghnaaENet4. Not trusted: Lean checks it. -/
import Derived.Test.YtomhhbjebgghnaaN3ENet3
namespace Go.Proofs.Ytomhhbjebgghnaa.P
open Go.RowKit Go.Proofs.YtomhhbjebgghnaaW.PrintWords Go.Proofs.YtomhhbjebgghnaaW.PrintLast Go.Proofs.YtomhhbjebgghnaaW.PrintMore
open Go.Proofs.Ytomhhbjebgghnaa.Emap
set_option linter.unusedVariables false
set_option linter.unusedSimpArgs false
set_option maxHeartbeats 1000000 in
set_option maxRecDepth 100000 in
theorem lose_calls (ptr : Value) (id : Int) (x : S29) (er : Int) (w : World) (R : World → Prop) (h : Calls Try.prog 12 #[ptr, .int .i64 id] w fun e w' => e = .returned (.tuple #[gV x, .int .i64 er]) ∧ R w') :
    Calls Try.prog 16 #[ptr, .int .i64 id] w fun e w' => e = .returned (.int .i64 er) ∧ ∃ w1, R w1 ∧ Below w1.heap.size w1 w' := by
  have H := Aside0.mk h
  rw [show gV x = .agg #[.int .i64 x.f0, .int .i64 x.f1, .string x.f2] from rfl] at H
  clear h
  go_enter Try.func16, Try.ntmps16
  go_wp2_with fail
  refine H.out.mono ?_
  rintro e w1 ⟨rfl, hr⟩
  have HR := Aside0.mk hr
  clear hr
  go_wp2_with fail
  go_ret
  exact ⟨rfl, w1, HR.out, below_alloc (Below.refl _ w1) _⟩
set_option maxHeartbeats 1000000 in
set_option maxRecDepth 100000 in
theorem twice_err (ptr : Value) (id er : Int) (her : er ≠ 0) (w : World) (hf : Calls Try.prog 30 #[ptr, .int .i64 id] w fun e w' => e = .returned (.tuple #[gV zG, .int .i64 er]) ∧ Below w.heap.size w w') :
    Calls Try.prog 11 #[ptr, .int .i64 id] w fun e w' => e = .returned (.tuple #[.int .i64 0, .int .i64 er]) ∧ Below w.heap.size w w' := by
  have H := Aside0.mk hf
  rw [show gV zG = .agg #[.int .i64 0, .int .i64 0, .string ⟨#[]⟩] from rfl] at H
  have her' : (er != 0) = true := by simpa using her
  clear hf her
  go_enter Try.func11, Try.ntmps11
  go_wp2_with fail
  refine H.out.mono ?_
  rintro e w1 ⟨rfl, hb⟩
  have HB := Aside0.mk hb
  clear hb
  go_wp2_with fail
  go_ret2
  exact ⟨rfl, below_alloc HB.out _⟩
set_option maxHeartbeats 1000000 in
set_option maxRecDepth 100000 in
theorem twice_ok (ptr : Value) (id : Int) (x : S29) (a er : Int) (w : World) (R : World → Prop) (hf : Calls Try.prog 30 #[ptr, .int .i64 id] w fun e w' => e = .returned (.tuple #[gV x, .int .i64 0]) ∧ Below w.heap.size w w')
    (hp : ∀ w1, Below w.heap.size w w1 → Calls Try.prog 29 #[ptr, gV x] w1 fun e w' => e = .returned (.tuple #[.int .i64 a, .int .i64 er]) ∧ R w') :
    Calls Try.prog 11 #[ptr, .int .i64 id] w fun e w' => e = .returned (.tuple #[.int .i64 a, .int .i64 er]) ∧ R w' := by
  have H := Aside0.mk hf
  have HP := Aside0.mk hp
  rw [show gV x = .agg #[.int .i64 x.f0, .int .i64 x.f1, .string x.f2] from rfl] at H HP
  clear hf hp
  go_enter Try.func11, Try.ntmps11
  go_wp2_with fail
  refine H.out.mono ?_
  rintro e w1 ⟨rfl, hb⟩
  obtain ⟨W2, hW2⟩ : ∃ W2, W2 = w1.alloc (.cells #[.int .i64 x.f0, .int .i64 x.f1, .string x.f2] 29) := ⟨_, rfl⟩
  have HB := Aside0.mk (show Below w.heap.size w W2 by rw [hW2]; exact below_alloc hb _)
  obtain ⟨g6, hg6⟩ : ∃ g6, g6 = w1.heap.size := ⟨_, rfl⟩
  obtain ⟨y0, y1, y2, yf⟩ := cell3n (show W2.heap[g6]? = some (.cells #[.int .i64 x.f0, .int .i64 x.f1, .string x.f2] 29 (0, 0)) by rw [hW2, hg6]; exact heap_alloc_new _ _)
  clear hb H
  go_upto_region 2 with (fail)
  rw [← hg6, ← hW2]
  clear hg6 hW2
  go_wp2_with fail
  refine (HP.out _ HB.out).mono ?_
  rintro e w3 ⟨rfl, hr⟩
  have HR := Aside0.mk hr
  clear hr
  go_wp2_with fail
  go_ret2
  exact ⟨rfl, HR.out⟩
def pB (a : Int) : Bool := decide (1 ≤ a) && decide (a ≤ 15)
theorem pB_f (a : Int) : net_peer.f a = some (pB a) := by
  unfold net_peer.f pB
  by_cases h : a ≥ 1
  · rw [if_pos h, decide_eq_true (show 1 ≤ a from h)]; rfl
  · rw [if_neg h, decide_eq_false (show ¬ 1 ≤ a from h)]; rfl
def sendB (x : S29) : Bool := pB x.f0 && pB x.f1 && !(x.f0 == x.f1) && decide (x.f2.size ≤ 400)
set_option maxHeartbeats 1000000 in
set_option maxRecDepth 100000 in
theorem send_bad (g : Nat) (x : S29) (hs : x.f2.size ≤ 9223372036854775807) (hb : sendB x = false) (w : World) : Calls Try.prog 9 #[.pointer (some ⟨g, 0, none⟩), gV x] w fun e w' => e = .returned (.tuple #[.int .i64 0, .int .i64 1]) ∧ Below w.heap.size w w' := by
  have HP := Aside0.mk (fun (a : Int) (w : World) => net_peer.calls a (pB a) w (pB_f a))
  unfold gV
  unfold sendB at hb
  cases h1 : pB x.f0 with
  | false =>
    have HP1 := Aside0.mk (HP.out x.f0)
    rw [h1] at HP1
    clear hb h1 HP
    go_enter Try.func9, Try.ntmps9
    go_wp2_with fail
    refine (HP1.out _).mono ?_
    rintro e w1 ⟨rfl, hd⟩
    have HB := Aside0.mk (below_step (below_alloc (Below.refl _ w) _) hd.below)
    clear hd
    go_wp2_with fail
    go_ret2
    exact ⟨rfl, HB.out⟩
  | true =>
    have HP1 := Aside0.mk (HP.out x.f0)
    rw [h1] at HP1
    have HP2 := Aside0.mk (HP.out x.f1)
    obtain ⟨W, hW⟩ : ∃ W, W = w.alloc (.cells #[.int .i64 x.f0, .int .i64 x.f1, .string x.f2] 29) := ⟨_, rfl⟩
    obtain ⟨g3, hg3⟩ : ∃ g3, g3 = w.heap.size := ⟨_, rfl⟩
    have HX := Aside0.mk (show W.heap[g3]? = some (.cells #[.int .i64 x.f0, .int .i64 x.f1, .string x.f2] 29 (0, 0)) by rw [hW, hg3]; exact heap_alloc_new _ _)
    obtain ⟨y0, y1, y2, -⟩ := cell3n HX.out
    have HBW := Aside0.mk (show Below w.heap.size w W by rw [hW]; exact below_alloc (Below.refl _ w) _)
    rw [h1, Bool.true_and] at hb
    cases h2 : pB x.f1 with
    | false =>
      rw [h2] at HP2
      clear hb h1 h2 HP
      go_enter Try.func9, Try.ntmps9
      go_upto_region 1 with (fail)
      rw [← hg3, ← hW]
      clear hg3 hW
      go_wp2_with fail
      refine (HP1.out _).mono ?_
      rintro e w1 ⟨rfl, hd⟩
      obtain ⟨z0, z1, z2, -⟩ := cell3n ((hd.below.block g3 (Array.getElem?_eq_some_iff.1 HX.out).1).trans HX.out)
      have HB1 := Aside0.mk (below_step HBW.out hd.below)
      clear hd y0 y1 y2
      go_wp2_with fail
      refine (HP2.out _).mono ?_
      rintro e w2 ⟨rfl, hd⟩
      have HB2 := Aside0.mk (below_step HB1.out hd.below)
      clear hd
      go_wp2_with fail
      go_ret2
      exact ⟨rfl, HB2.out⟩
    | true =>
      rw [h2] at HP2
      rw [h2, Bool.true_and] at hb
      by_cases h3 : x.f0 = x.f1
      · have h3b : (x.f0 == x.f1) = true := by simpa using h3
        clear hb h1 h2 HP h3
        go_enter Try.func9, Try.ntmps9
        go_upto_region 1 with (fail)
        rw [← hg3, ← hW]
        clear hg3 hW
        go_wp2_with fail
        refine (HP1.out _).mono ?_
        rintro e w1 ⟨rfl, hd⟩
        obtain ⟨z0, z1, z2, -⟩ := cell3n ((hd.below.block g3 (Array.getElem?_eq_some_iff.1 HX.out).1).trans HX.out)
        have HB1 := Aside0.mk (below_step HBW.out hd.below)
        have HX1 := Aside0.mk ((hd.below.block g3 (Array.getElem?_eq_some_iff.1 HX.out).1).trans HX.out)
        clear hd y0 y1 y2
        go_wp2_with fail
        refine (HP2.out _).mono ?_
        rintro e w2 ⟨rfl, hd⟩
        have HB2 := Aside0.mk (below_step HB1.out hd.below)
        obtain ⟨y0, y1, y2, -⟩ := cell3n ((hd.below.block g3 (Array.getElem?_eq_some_iff.1 HX1.out).1).trans HX1.out)
        clear hd z0 z1 z2
        go_wp2_with fail
        go_ret2
        exact ⟨rfl, HB2.out⟩
      · have h3b : (x.f0 == x.f1) = false := by simpa using h3
        rw [h3b] at hb
        have h4 : ¬ x.f2.size ≤ 400 := by simpa using hb
        have h4' : decide (400 < (x.f2.size : Int)) = true := decide_eq_true (by omega)
        clear hb h1 h2 HP h3
        go_enter Try.func9, Try.ntmps9
        go_upto_region 1 with (fail)
        rw [← hg3, ← hW]
        clear hg3 hW
        go_wp2_with fail
        refine (HP1.out _).mono ?_
        rintro e w1 ⟨rfl, hd⟩
        obtain ⟨z0, z1, z2, -⟩ := cell3n ((hd.below.block g3 (Array.getElem?_eq_some_iff.1 HX.out).1).trans HX.out)
        have HB1 := Aside0.mk (below_step HBW.out hd.below)
        have HX1 := Aside0.mk ((hd.below.block g3 (Array.getElem?_eq_some_iff.1 HX.out).1).trans HX.out)
        clear hd y0 y1 y2
        go_wp2_with fail
        refine (HP2.out _).mono ?_
        rintro e w2 ⟨rfl, hd⟩
        have HB2 := Aside0.mk (below_step HB1.out hd.below)
        obtain ⟨y0, y1, y2, -⟩ := cell3n ((hd.below.block g3 (Array.getElem?_eq_some_iff.1 HX1.out).1).trans HX1.out)
        clear hd z0 z1 z2
        go_wp2_with fail
        go_ret2
        exact ⟨rfl, HB2.out⟩
end Go.Proofs.Ytomhhbjebgghnaa.P
