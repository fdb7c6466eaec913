/- What the claim on this statement wants of the text YtomhhbjebgghnaaENet8. Not trusted: Lean checks it. -/
import Derived.Test.YtomhhbjebgghnaaN3ENet7
namespace Go.Proofs.Ytomhhbjebgghnaa.P
open Go.RowKit Go.Proofs.YtomhhbjebgghnaaW.PrintWords Go.Proofs.YtomhhbjebgghnaaW.PrintLast Go.Proofs.YtomhhbjebgghnaaW.PrintMore
open Go.Proofs.Ytomhhbjebgghnaa.Emap
set_option linter.unusedVariables false
set_option linter.unusedSimpArgs false
/-- The numbers that a net holds rise, up to the last one. -/
structure NetOk (last : Int) (M : List (Int × S29)) : Prop where
  lo : 0 ≤ last
  hi : last ≤ 1000000
  le : ∀ p ∈ M, 0 < p.1 ∧ p.1 ≤ last
  up : (M.map (·.1)).Pairwise (· < ·)
theorem NetOk.nil : NetOk 0 [] := ⟨by omega, by omega, (fun _ h => by cases h), List.Pairwise.nil⟩
theorem NetOk.put {last : Int} {M : List (Int × S29)} (h : NetOk last M) (hl : last < 1000000) (x : S29) : NetOk (last + 1) (M ++ [(last + 1, x)]) := by
  refine ⟨by have := h.lo; omega, by omega, fun p hp => ?_, ?_⟩
  · rcases List.mem_append.1 hp with hp | hp
    · have := h.le p hp; omega
    · rw [List.mem_singleton.1 hp]; have := h.lo; exact ⟨by show 0 < last + 1; omega, Int.le_refl _⟩
  · rw [List.map_append, List.pairwise_append]
    refine ⟨h.up, List.pairwise_singleton _ _, fun a ha c hc => ?_⟩
    obtain ⟨p, hp, rfl⟩ := List.mem_map.1 ha
    have hc' : c = last + 1 := by simpa using hc
    have := (h.le p hp).2
    omega
theorem NetOk.cut {last : Int} {M : List (Int × S29)} (h : NetOk last M) (id : Int) : NetOk last (P.cut M id) :=
  ⟨h.lo, h.hi, fun p hp => h.le p (List.mem_filter.1 hp).1, by
    have := h.up
    rw [List.pairwise_map] at this ⊢
    exact this.filter _⟩
section
variable {g b : Nat} {room last : Int} {M : List (Int × S29)} {w : World}
theorem send_room (hn : NetAt w g b room last M) (ho : NetOk last M) (x : S29) (hx : sendB x = true) (hf : (M.length : Int) < room) :
    Calls Try.prog 9 #[.pointer (some ⟨g, 0, none⟩), gV x] w fun e w' => e = .returned (.tuple #[.int .i64 (last + 1), .int .i64 0]) ∧ NetAt w' g b room (last + 1) (M ++ [(last + 1, x)]) ∧ Near w w' g b :=
  send_ok g x hx _ _ w _ fun w1 hb1 => (put_room g b room last M x w1 (hn.later hb1) hf ho.lo ho.hi (fun p hp => (ho.le p hp).2)).mono fun e w' ⟨h1, h2, h3⟩ => ⟨h1, h2, (Near.of hb1).trans h3⟩
theorem send_full (hn : NetAt w g b room last M) (x : S29) (hx : sendB x = true) (hf : room ≤ (M.length : Int)) :
    Calls Try.prog 9 #[.pointer (some ⟨g, 0, none⟩), gV x] w fun e w' => e = .returned (.tuple #[.int .i64 0, .int .i64 6]) ∧ NetAt w' g b room last M ∧ Near w w' g b :=
  send_ok g x hx _ _ w _ fun w1 hb1 => (put_full g b room last M x w1 (hn.later hb1) hf).mono fun e w' ⟨h1, h2⟩ => ⟨h1, (hn.later hb1).later h2, (Near.of hb1).trans (Near.of h2)⟩
theorem send_not (hn : NetAt w g b room last M) (x : S29) (hs : x.f2.size ≤ 9223372036854775807) (hx : sendB x = false) :
    Calls Try.prog 9 #[.pointer (some ⟨g, 0, none⟩), gV x] w fun e w' => e = .returned (.tuple #[.int .i64 0, .int .i64 1]) ∧ NetAt w' g b room last M ∧ Near w w' g b :=
  (send_bad g x hs hx w).mono fun e w' ⟨h1, h2⟩ => ⟨h1, hn.later h2, Near.of h2⟩
theorem twice_room (hn : NetAt w g b room last M) (ho : NetOk last M) (id : Int) (hid : kGood id) (x : S29) (hx : (id, x) ∈ M) (hf : (M.length : Int) < room) :
    Calls Try.prog 11 #[.pointer (some ⟨g, 0, none⟩), .int .i64 id] w fun e w' => e = .returned (.tuple #[.int .i64 (last + 1), .int .i64 0]) ∧ NetAt w' g b room (last + 1) (M ++ [(last + 1, x)]) ∧ Near w w' g b :=
  twice_ok _ id x _ _ w _ (find_some g b room last M id hid x w hn hx) fun w1 hb1 => (put_room g b room last M x w1 (hn.later hb1) hf ho.lo ho.hi (fun p hp => (ho.le p hp).2)).mono fun e w' ⟨h1, h2, h3⟩ => ⟨h1, h2, (Near.of hb1).trans h3⟩
theorem twice_full (hn : NetAt w g b room last M) (id : Int) (hid : kGood id) (x : S29) (hx : (id, x) ∈ M) (hf : room ≤ (M.length : Int)) :
    Calls Try.prog 11 #[.pointer (some ⟨g, 0, none⟩), .int .i64 id] w fun e w' => e = .returned (.tuple #[.int .i64 0, .int .i64 6]) ∧ NetAt w' g b room last M ∧ Near w w' g b :=
  twice_ok _ id x _ _ w _ (find_some g b room last M id hid x w hn hx) fun w1 hb1 => (put_full g b room last M x w1 (hn.later hb1) hf).mono fun e w' ⟨h1, h2⟩ => ⟨h1, (hn.later hb1).later h2, (Near.of hb1).trans (Near.of h2)⟩
theorem twice_not (hn : NetAt w g b room last M) (id : Int) (hid : kGood id) (hx : ∀ p ∈ M, p.1 ≠ id) :
    Calls Try.prog 11 #[.pointer (some ⟨g, 0, none⟩), .int .i64 id] w fun e w' => e = .returned (.tuple #[.int .i64 0, .int .i64 4]) ∧ NetAt w' g b room last M ∧ Near w w' g b :=
  (twice_err _ id 4 (by decide) w (find_none g b room last M id hid w hn hx)).mono fun e w' ⟨h1, h2⟩ => ⟨h1, hn.later h2, Near.of h2⟩
theorem take_not (hn : NetAt w g b room last M) (id : Int) (hid : kGood id) (hx : ∀ p ∈ M, p.1 ≠ id) :
    Calls Try.prog 12 #[.pointer (some ⟨g, 0, none⟩), .int .i64 id] w fun e w' => e = .returned (.tuple #[gV zG, .int .i64 4]) ∧ NetAt w' g b room last M ∧ Near w w' g b :=
  (take_none g b room last M id hid w hn hx).mono fun e w' ⟨h1, h2⟩ => ⟨h1, hn.later h2, Near.of h2⟩
theorem lose_some (hn : NetAt w g b room last M) (id : Int) (hid : kGood id) (x : S29) (hx : (id, x) ∈ M) :
    Calls Try.prog 16 #[.pointer (some ⟨g, 0, none⟩), .int .i64 id] w fun e w' => e = .returned (.int .i64 0) ∧ NetAt w' g b room last (cut M id) ∧ Near w w' g b :=
  (lose_calls _ id x 0 w _ (take_some g b room last M id hid x w hn hx)).mono fun e w' ⟨h1, w1, ⟨h2, h3⟩, h4⟩ => ⟨h1, h2.later h4, h3.trans (Near.of h4)⟩
theorem lose_not (hn : NetAt w g b room last M) (id : Int) (hid : kGood id) (hx : ∀ p ∈ M, p.1 ≠ id) :
    Calls Try.prog 16 #[.pointer (some ⟨g, 0, none⟩), .int .i64 id] w fun e w' => e = .returned (.int .i64 4) ∧ NetAt w' g b room last M ∧ Near w w' g b :=
  (lose_calls _ id zG 4 w _ (take_not hn id hid hx)).mono fun e w' ⟨h1, w1, ⟨h2, h3⟩, h4⟩ => ⟨h1, h2.later h4, h3.trans (Near.of h4)⟩
end
theorem kgood {k : Int} (h1 : -9223372036854775808 ≤ k) (h2 : k ≤ 9223372036854775807) : kGood k := WalkArith.wf_i64 (by omega)
def x1 : S29 := ⟨1, 2, ⟨#[120]⟩⟩
set_option maxHeartbeats 1000000 in
set_option maxRecDepth 100000 in
theorem awake_calls (w : World) : Calls Try.prog 8 #[] w fun e w' => e = .returned (.bool true) ∧ Below w.heap.size w w' := by
  have HN := Aside0.mk (new_calls 5 (by omega) (by omega))
  go_enter Try.func8, Try.ntmps8
  go_wp2_with fail
  refine (HN.out _).mono ?_
  rintro e w1 ⟨g, b, rfl, hg, hb, hn, hB⟩
  have HG := Aside0.mk (And.intro hg hb)
  have HC := Aside0.mk (send_room hn NetOk.nil x1 (by decide) (by decide))
  rw [show gV x1 = .agg #[.int .i64 1, .int .i64 2, .string ⟨#[120]⟩] from rfl] at HC
  have HB := Aside0.mk hB
  clear hn hB HN hg hb
  go_wp2_with fail
  refine HC.out.mono ?_
  rintro e w2 ⟨rfl, hn, hr⟩
  have HO := Aside0.mk (NetOk.nil.put (by decide) x1)
  have HB2 := Aside0.mk (hr.below HB.out HG.out.1 HG.out.2)
  have HC2 := Aside0.mk (send_room hn HO.out x1 (by decide) (by decide))
  rw [show gV x1 = .agg #[.int .i64 1, .int .i64 2, .string ⟨#[120]⟩] from rfl] at HC2
  clear hn hr HC
  go_wp2_with fail
  refine HC2.out.mono ?_
  rintro e w3 ⟨rfl, hn, hr⟩
  have HO2 := Aside0.mk (HO.out.put (by decide) x1)
  have HB3 := Aside0.mk (hr.below HB2.out HG.out.1 HG.out.2)
  have HC3 := Aside0.mk (take_some g b 5 _ _ 1 (kgood (by omega) (by omega)) x1 w3 hn (by simp))
  rw [show gV x1 = .agg #[.int .i64 1, .int .i64 2, .string ⟨#[120]⟩] from rfl] at HC3
  clear hn hr HC2
  go_wp2_with fail
  refine HC3.out.mono ?_
  rintro e w4 ⟨rfl, hn, hr⟩
  have HO3 := Aside0.mk (HO2.out.cut 1)
  have HB4 := Aside0.mk (hr.below HB3.out HG.out.1 HG.out.2)
  have HM : cut ([] ++ [((0 : Int) + 1, x1)] ++ [((0 : Int) + 1 + 1, x1)]) 1 = [((2 : Int), x1)] := rfl
  rw [HM] at hn HO3
  have HN4 := Aside0.mk hn
  have hl4 := hn.lt
  obtain ⟨W5, hW5⟩ : ∃ W5, W5 = w4.alloc (.cells #[.int .i64 1, .int .i64 2, .string ⟨#[120]⟩] 29) := ⟨_, rfl⟩
  obtain ⟨g6, hg6⟩ : ∃ g6, g6 = w4.heap.size := ⟨_, rfl⟩
  have HX := Aside0.mk (show W5.heap[g6]? = some (.cells #[.int .i64 1, .int .i64 2, .string ⟨#[120]⟩] 29 (0, 0)) by rw [hW5, hg6]; exact heap_alloc_new _ _)
  have hb5 : Below w4.heap.size w4 W5 := by rw [hW5]; exact below_alloc (Below.refl _ w4) _
  have HN5 := Aside0.mk (HN4.out.later hb5)
  have HB5 := Aside0.mk (below_step HB4.out hb5)
  have HNE : Aside0 (g6 ≠ g ∧ g6 ≠ b) := ⟨by omega⟩
  have HNT := Aside0.mk (nth_calls g b 5 _ _ 0 W5 HN5.out (by simp) (by simp))
  rw [show nthV [((2 : Int), x1)] 0 = 2 from rfl] at HNT
  clear hn hr HC3 HM hb5 hl4
  go_upto_region 5 with (fail)
  rw [← hg6, ← hW5]
  clear hg6 hW5
  go_wp2_with fail
  refine HNT.out.mono ?_
  rintro e w6 ⟨rfl, hb6⟩
  have HN6 := Aside0.mk (HN5.out.later hb6)
  have HB6 := Aside0.mk (below_step HB5.out hb6)
  have HX6 := Aside0.mk ((hb6.block g6 (Array.getElem?_eq_some_iff.1 HX.out).1).trans HX.out)
  have HC6 := Aside0.mk (twice_room HN6.out HO3.out 2 (kgood (by omega) (by omega)) x1 (by simp) (by decide))
  clear hb6 HNT
  go_wp2_with fail
  refine HC6.out.mono ?_
  rintro e w7 ⟨rfl, hn, hr⟩
  have HB7 := Aside0.mk (hr.below HB6.out HG.out.1 HG.out.2)
  obtain ⟨y0, y1, y2, yf⟩ := cell3n ((hr.block g6 (Array.getElem?_eq_some_iff.1 HX6.out).1 HNE.out.1 HNE.out.2).trans HX6.out)
  have HLE := Aside0.mk (len_calls g b 5 _ _ w7 hn)
  clear hn hr HC6
  go_wp2_with fail
  refine HLE.out.mono ?_
  rintro e w8 ⟨rfl, rfl⟩
  go_wp2_with fail
  go_ret
  exact ⟨rfl, HB7.out⟩
end Go.Proofs.Ytomhhbjebgghnaa.P
