/- What the claim on this statement wants of the text YtaomblcecjaedaaPx15. Not trusted: Lean checks it. -/
import Derived.Test.YtaomblcecjaedaaK1Px0
import Derived.Test.YtaomblcecjaedaaK1Px1
import Derived.Test.YtaomblcecjaedaaK1Px3
import Derived.Test.YtaomblcecjaedaaK1Px4
import Derived.Test.YtaomblcecjaedaaK1Px10
import Derived.Test.YtaomblcecjaedaaK1Px11
import Derived.Test.YtaomblcecjaedaaK1Px14
import Derived.Test.YtaomblcecjaedaaK1ERoot
namespace Go.Proofs.Ytaomblcecjaedaa.P
open Go.RowKit Go.Proofs.YtaomblcecjaedaaW.PrintWords Go.Proofs.YtaomblcecjaedaaW.PrintLast Go.Proofs.YtaomblcecjaedaaW.PrintMore
attribute [local go_sem] max2_int min2_int max_two min_two max_three min_three max_four min_four   -- for this text's walks alone
set_option linter.unusedVariables false
set_option linter.unusedSimpArgs false
def mosaiclaw03_MerkleProves.j0 : Nat → List ByteArray → Int → Bool → Option (Bool)
  | 0, _, _, _ => none
  | k + 1, x0, x1, x19 => if x19 = true then ((mosaiclaw03_awake.f k).bind fun t410 => (some t410)) else (if (x0.length : Int) = 0 then (none) else ((merkle_Root.f k x0).bind fun bt411 => ((merkle_Path.f k x0 (Int.tmod (wrap64 ((Int.tmod x1 (x0.length : Int)) + (x0.length : Int))) (x0.length : Int))).bind fun bt413 => (if 0 ≤ (Int.tmod (wrap64 ((Int.tmod x1 (x0.length : Int)) + (x0.length : Int))) (x0.length : Int)) then (if (Int.tmod (wrap64 ((Int.tmod x1 (x0.length : Int)) + (x0.length : Int))) (x0.length : Int)) < (x0.length : Int) then ((merkle_Road.f k (x0.length : Int) (Int.tmod (wrap64 ((Int.tmod x1 (x0.length : Int)) + (x0.length : Int))) (x0.length : Int)) (rdOf ByteArray.empty x0 (Int.tmod (wrap64 ((Int.tmod x1 (x0.length : Int)) + (x0.length : Int))) (x0.length : Int))) bt413.1).bind fun t418 => ((merkle_Texts.f k x0).bind fun t421 => (if bt411.2 = 0 then (if bt413.2 = 0 then ((merkle_Leaf.f (rdOf ByteArray.empty x0 (Int.tmod (wrap64 ((Int.tmod x1 (x0.length : Int)) + (x0.length : Int))) (x0.length : Int)))).bind fun t425 => ((merkle_Check.f k bt411.1 (x0.length : Int) (Int.tmod (wrap64 ((Int.tmod x1 (x0.length : Int)) + (x0.length : Int))) (x0.length : Int)) t425 bt413.1).bind fun t426 => (if t426 = true then ((mosaiclaw03_awake.f k).bind fun t427 => (if t427 = true then (if (t418.length : Int) = (wrap64 ((bt413.1.length : Int) + 1)) then (if (t421.length : Int) > 0 then (if 0 ≤ (wrap64 ((t418.length : Int) - 1)) then (if (wrap64 ((t418.length : Int) - 1)) < (t418.length : Int) then (if 0 ≤ (wrap64 ((t421.length : Int) - 1)) then (if (wrap64 ((t421.length : Int) - 1)) < (t421.length : Int) then (some ((rdOf ByteArray.empty t418 (wrap64 ((t418.length : Int) - 1))).toList == (rdOf ByteArray.empty t421 (wrap64 ((t421.length : Int) - 1))).toList)) else (none)) else (none)) else (none)) else (none)) else (some false)) else (some false)) else (some false))) else (some false)))) else (some false)) else (some false)))) else (none)) else (none)))))
def mosaiclaw03_MerkleProves.f (k : Nat) (l0 : List ByteArray) (a1 : Int) : Option (Bool) := (mosaiclaw03_few.f k l0 30 1024).bind fun t409 => (if t409 = true then (mosaiclaw03_MerkleProves.j0 k l0 a1 ((l0.length : Int) == 0)) else (mosaiclaw03_MerkleProves.j0 k l0 a1 true))
def mosaiclaw03_MerkleProves.T10 : Bool × List (List Nat × List Nat) := (true, [([], []), ([0, 0], [0]), ([1], [1]), ([2, 1], [1, 2]), ([1], [1]), ([4, 1], [1, 4]), ([5, 1], [1, 5]), ([3, 6, 1], [1, 3, 6]), ([1, 7], [1, 7]), ([8, 1], [8]), ([9], [9]), ([10, 9], [9, 10]), ([11, 9], [9, 11]), ([9, 12], [9, 12]), ([13, 9], [13]), ([14], [14]), ([14], [14]), ([16, 14], [14, 16]), ([17, 14], [14, 17]), ([15, 18, 14], [14, 15, 18]), ([19, 14], [14, 19]), ([14], [14]), ([14], [14]), ([22, 14], [14, 22]), ([23, 14], [14, 23]), ([21, 24, 14], [14, 21, 24]), ([25, 14], [14, 25]), ([20, 26, 14], [14, 20, 26]), ([14, 27], [14, 27]), ([28, 14, 0, 1, 2, 3, 4, 5, 6, 7, 8, 9, 10, 11, 12, 13, 14, 15, 16, 17, 18, 19, 20, 21, 22, 23, 24, 25, 26, 27, 28], [28])])
def mosaiclaw03_MerkleProves.B10 : List Nat := [0, 1, 3, 7, 3, 19, 51, 127, 255, 511, 1023, 2047, 4095, 8191, 16383, 32767, 32767, 98303, 229375, 524287, 1048575, 32767, 32767, 4227071, 12615679, 31490047, 65044479, 134217727, 268435455, 536870911]
theorem mosaiclaw03_MerkleProves.tab10 : rtab .any (opsOf Try.f4 10) = mosaiclaw03_MerkleProves.T10 := by kernel_rfl
theorem mosaiclaw03_MerkleProves.bits10 : waitsOk mosaiclaw03_MerkleProves.T10.2 mosaiclaw03_MerkleProves.B10 = true := by kernel_rfl
set_option maxHeartbeats 8000000 in
set_option maxRecDepth 100000 in
theorem mosaiclaw03_MerkleProves.calls (k : Nat) (A0 : Option Addr) (c0 : Nat) (l0 : List ByteArray) (a1 : Int) (r : Bool) (w : World) (hr0 : Kd.C Kd.string w A0 l0.length l0) (hc0 : l0.length ≤ c0) (h : mosaiclaw03_MerkleProves.f k l0 a1 = some r) (hr_ : r = true := by first | rfl | exact Aside0.out (by assumption)) :
    Calls Try.prog 4 #[.slice A0 l0.length c0, .int .i64 a1] w fun e w' => e = .returned (.bool r) ∧ Below w.heap.size w w' := by
  have HR_ := Aside0.mk hr_
  clear hr_
  have HR0 := Aside0.mk hr0
  have HC0 := Aside0.mk hc0
  clear hr0 hc0
  have HB := Aside0.mk (Below.refl w.heap.size w)
  have H : ((mosaiclaw03_few.f k l0 30 1024).bind fun t409 => (if t409 = true then (mosaiclaw03_MerkleProves.j0 k l0 a1 ((l0.length : Int) == 0)) else (mosaiclaw03_MerkleProves.j0 k l0 a1 true))) = some r := h
  clear h
  have HC3 := Aside0.mk H
  clear H
  go_enter Try.func4, Try.ntmps4
  go_upto_region 1 with (fail)
  go_cut [19] (fun v19 wc => ∃ (kq : Nat) (x19_2 : Bool), v19 = .bool x19_2 ∧ Aside0 (mosaiclaw03_MerkleProves.j0 kq l0 a1 x19_2 = some r) ∧ Aside0 (kq ≤ k) ∧ Aside0 (Below w.heap.size w wc))
  case first =>
    have H := HC3.out
    clear HC3
    replace H := Option.bind_eq_some_iff.mp H
    obtain ⟨t409, A40, H⟩ := H
    replace H : (if t409 = true then (mosaiclaw03_MerkleProves.j0 k l0 a1 ((l0.length : Int) == 0)) else (mosaiclaw03_MerkleProves.j0 k l0 a1 true)) = some r := H
    have A4 := Aside0.mk A40
    clear A40
    by_cases c5 : t409 = true
    · subst c5
      have H1 : (mosaiclaw03_MerkleProves.j0 k l0 a1 ((l0.length : Int) == 0)) = some r := by rw [if_pos rfl] at H; exact H
      clear H
      have H := H1
      clear H1
      have H' := Aside0.mk H
      clear H
      go_wp2_with (first | ((with_reducible refine gate_callee (f := 7) rfl ?_); refine goesL_ (some 13) rfl rfl Try.func7 (by kernel_rfl) rfl #[.slice A0 l0.length c0, .int .i64 30, .int .i64 1024] rfl (by (try simp only [List.map_toArray, List.map_cons, List.map_nil]); first | done | rfl | (simp only [List.length_drop, List.length_take]; rfl)) ?_; (with_reducible refine (mosaiclaw03_few.calls k _ _ l0 30 1024 true _ ?side1 ?side2 A4.out).mono ?_); (case side1 => repeat (first | exact (Kd.C_below HR0.out HB.out) | (with_reducible refine Kd.C_alloc ?_ _) | (with_reducible refine Kd.C_drewN ?_ _) | (with_reducible refine Kd.C_drew ?_))); (case side2 => exact HC0.out); rintro e w' ⟨rfl, ⟨nd, rfl⟩⟩; refine ⟨_, rfl, ?_⟩))
      go_meet
      case rel => exact ⟨_, (((l0.length : Int) == 0)), (by first | rfl | (simp; done) | (simp [*]; done)), H', ⟨by first | omega | exact Nat.le_refl _⟩, ⟨by repeat (first | (with_reducible first | exact HB.out | apply below_alloc | apply pw_below_drewN | apply below_drew1) | exact HB.out)⟩⟩
    · replace c5 := Bool.eq_false_iff.mpr c5
      subst c5
      have H1 : (mosaiclaw03_MerkleProves.j0 k l0 a1 true) = some r := by rw [if_neg (show ¬ (false = true) by decide)] at H; exact H
      clear H
      have H := H1
      clear H1
      have H' := Aside0.mk H
      clear H
      go_wp2_with (first | ((with_reducible refine gate_callee (f := 7) rfl ?_); refine goesL_ (some 13) rfl rfl Try.func7 (by kernel_rfl) rfl #[.slice A0 l0.length c0, .int .i64 30, .int .i64 1024] rfl (by (try simp only [List.map_toArray, List.map_cons, List.map_nil]); first | done | rfl | (simp only [List.length_drop, List.length_take]; rfl)) ?_; (with_reducible refine (mosaiclaw03_few.calls k _ _ l0 30 1024 false _ ?side1 ?side2 A4.out).mono ?_); (case side1 => repeat (first | exact (Kd.C_below HR0.out HB.out) | (with_reducible refine Kd.C_alloc ?_ _) | (with_reducible refine Kd.C_drewN ?_ _) | (with_reducible refine Kd.C_drew ?_))); (case side2 => exact HC0.out); rintro e w' ⟨rfl, ⟨nd, rfl⟩⟩; refine ⟨_, rfl, ?_⟩))
      go_meet
      case rel => exact ⟨_, (true), (by first | rfl | (simp; done) | (simp [*]; done)), H', ⟨by first | omega | exact Nat.le_refl _⟩, ⟨by repeat (first | (with_reducible first | exact HB.out | apply below_alloc | apply pw_below_drewN | apply below_drew1) | exact HB.out)⟩⟩
  case rest =>
    clear HC3
    try clear p2
    try clear c4
    try clear c5
    obtain ⟨kq, x19_2, rfl, HA, HJ2, HB⟩ := hcut
    cases kq with
    | zero => exact absurd HA.out (by simp [mosaiclaw03_MerkleProves.j0])
    | succ kj2 =>
      have H := HA.out
      clear HA
      simp only [mosaiclaw03_MerkleProves.j0] at H
      by_cases c6 : x19_2 = true
      · subst c6
        have H1 : ((mosaiclaw03_awake.f kj2).bind fun t410 => (some t410)) = some r := by rw [if_pos rfl] at H; exact H
        clear H
        have H := H1
        clear H1
        replace H := Option.bind_eq_some_iff.mp H
        obtain ⟨t410, A70, H⟩ := H
        replace H : (some t410) = some r := H
        have A7 := Aside0.mk A70
        clear A70
        obtain rfl := Option.some.inj H
        go_wp2_with (first | ((with_reducible refine gate_callee (f := 8) rfl ?_); refine goesL_ (some 20) rfl rfl Try.func8 (by kernel_rfl) rfl #[] rfl (by (try simp only [List.map_toArray, List.map_cons, List.map_nil]); first | done | rfl | (simp only [List.length_drop, List.length_take]; rfl)) ?_; (with_reducible refine (mosaiclaw03_awake.calls kj2  t410 _ A7.out).mono ?_); rintro e w8 ⟨rfl, hb⟩; refine ⟨_, rfl, ?_⟩; have n0_ := Aside0.mk (below_step (by repeat (first | (with_reducible first | exact HB.out | apply below_alloc | apply pw_below_drewN | apply below_drew1) | exact HB.out)) hb); clear HB; have HB := n0_; clear n0_; (try clear hb); (try clear hb2); (try clear hk); (try clear hi)))
        go_ret
        exact ⟨by first | rfl | (simp [errW_none, errW_some] <;> rfl) | (simp [*, errW_none, errW_some] <;> rfl), by repeat (first | (with_reducible first | exact HB.out | apply below_alloc | apply pw_below_drewN | apply below_drew1) | exact HB.out)⟩
      · replace c6 := Bool.eq_false_iff.mpr c6
        subst c6
        have H1 : (if (l0.length : Int) = 0 then (none) else ((merkle_Root.f kj2 l0).bind fun bt411 => ((merkle_Path.f kj2 l0 (Int.tmod (wrap64 ((Int.tmod a1 (l0.length : Int)) + (l0.length : Int))) (l0.length : Int))).bind fun bt413 => (if 0 ≤ (Int.tmod (wrap64 ((Int.tmod a1 (l0.length : Int)) + (l0.length : Int))) (l0.length : Int)) then (if (Int.tmod (wrap64 ((Int.tmod a1 (l0.length : Int)) + (l0.length : Int))) (l0.length : Int)) < (l0.length : Int) then ((merkle_Road.f kj2 (l0.length : Int) (Int.tmod (wrap64 ((Int.tmod a1 (l0.length : Int)) + (l0.length : Int))) (l0.length : Int)) (rdOf ByteArray.empty l0 (Int.tmod (wrap64 ((Int.tmod a1 (l0.length : Int)) + (l0.length : Int))) (l0.length : Int))) bt413.1).bind fun t418 => ((merkle_Texts.f kj2 l0).bind fun t421 => (if bt411.2 = 0 then (if bt413.2 = 0 then ((merkle_Leaf.f (rdOf ByteArray.empty l0 (Int.tmod (wrap64 ((Int.tmod a1 (l0.length : Int)) + (l0.length : Int))) (l0.length : Int)))).bind fun t425 => ((merkle_Check.f kj2 bt411.1 (l0.length : Int) (Int.tmod (wrap64 ((Int.tmod a1 (l0.length : Int)) + (l0.length : Int))) (l0.length : Int)) t425 bt413.1).bind fun t426 => (if t426 = true then ((mosaiclaw03_awake.f kj2).bind fun t427 => (if t427 = true then (if (t418.length : Int) = (wrap64 ((bt413.1.length : Int) + 1)) then (if (t421.length : Int) > 0 then (if 0 ≤ (wrap64 ((t418.length : Int) - 1)) then (if (wrap64 ((t418.length : Int) - 1)) < (t418.length : Int) then (if 0 ≤ (wrap64 ((t421.length : Int) - 1)) then (if (wrap64 ((t421.length : Int) - 1)) < (t421.length : Int) then (some ((rdOf ByteArray.empty t418 (wrap64 ((t418.length : Int) - 1))).toList == (rdOf ByteArray.empty t421 (wrap64 ((t421.length : Int) - 1))).toList)) else (none)) else (none)) else (none)) else (none)) else (some false)) else (some false)) else (some false))) else (some false)))) else (some false)) else (some false)))) else (none)) else (none))))) = some r := by rw [if_neg (show ¬ (false = true) by decide)] at H; exact H
        clear H
        have H := H1
        clear H1
        by_cases c9 : (l0.length : Int) = 0
        · rw [if_pos c9] at H
          exact absurd H (by simp)
        · rw [if_neg c9] at H
          have c9b0 : ((l0.length : Int) == 0) = false := beq_eq_false_iff_ne.mpr c9
          have c9b1 : ((l0.length : Int) != 0) = true := bne_iff_ne.mpr c9
          have c9b2 : ¬ (l0 = []) := fun h_ => c9 (by rw [h_]; rfl)
          replace H := Option.bind_eq_some_iff.mp H
          obtain ⟨⟨t411, t412⟩, A100, H⟩ := H
          replace H : ((merkle_Path.f kj2 l0 (Int.tmod (wrap64 ((Int.tmod a1 (l0.length : Int)) + (l0.length : Int))) (l0.length : Int))).bind fun bt413 => (if 0 ≤ (Int.tmod (wrap64 ((Int.tmod a1 (l0.length : Int)) + (l0.length : Int))) (l0.length : Int)) then (if (Int.tmod (wrap64 ((Int.tmod a1 (l0.length : Int)) + (l0.length : Int))) (l0.length : Int)) < (l0.length : Int) then ((merkle_Road.f kj2 (l0.length : Int) (Int.tmod (wrap64 ((Int.tmod a1 (l0.length : Int)) + (l0.length : Int))) (l0.length : Int)) (rdOf ByteArray.empty l0 (Int.tmod (wrap64 ((Int.tmod a1 (l0.length : Int)) + (l0.length : Int))) (l0.length : Int))) bt413.1).bind fun t418 => ((merkle_Texts.f kj2 l0).bind fun t421 => (if t412 = 0 then (if bt413.2 = 0 then ((merkle_Leaf.f (rdOf ByteArray.empty l0 (Int.tmod (wrap64 ((Int.tmod a1 (l0.length : Int)) + (l0.length : Int))) (l0.length : Int)))).bind fun t425 => ((merkle_Check.f kj2 t411 (l0.length : Int) (Int.tmod (wrap64 ((Int.tmod a1 (l0.length : Int)) + (l0.length : Int))) (l0.length : Int)) t425 bt413.1).bind fun t426 => (if t426 = true then ((mosaiclaw03_awake.f kj2).bind fun t427 => (if t427 = true then (if (t418.length : Int) = (wrap64 ((bt413.1.length : Int) + 1)) then (if (t421.length : Int) > 0 then (if 0 ≤ (wrap64 ((t418.length : Int) - 1)) then (if (wrap64 ((t418.length : Int) - 1)) < (t418.length : Int) then (if 0 ≤ (wrap64 ((t421.length : Int) - 1)) then (if (wrap64 ((t421.length : Int) - 1)) < (t421.length : Int) then (some ((rdOf ByteArray.empty t418 (wrap64 ((t418.length : Int) - 1))).toList == (rdOf ByteArray.empty t421 (wrap64 ((t421.length : Int) - 1))).toList)) else (none)) else (none)) else (none)) else (none)) else (some false)) else (some false)) else (some false))) else (some false)))) else (some false)) else (some false)))) else (none)) else (none))) = some r := H
          have A10 := Aside0.mk A100
          clear A100
          replace H := Option.bind_eq_some_iff.mp H
          obtain ⟨⟨t413, t414⟩, A110, H⟩ := H
          replace H : (if 0 ≤ (Int.tmod (wrap64 ((Int.tmod a1 (l0.length : Int)) + (l0.length : Int))) (l0.length : Int)) then (if (Int.tmod (wrap64 ((Int.tmod a1 (l0.length : Int)) + (l0.length : Int))) (l0.length : Int)) < (l0.length : Int) then ((merkle_Road.f kj2 (l0.length : Int) (Int.tmod (wrap64 ((Int.tmod a1 (l0.length : Int)) + (l0.length : Int))) (l0.length : Int)) (rdOf ByteArray.empty l0 (Int.tmod (wrap64 ((Int.tmod a1 (l0.length : Int)) + (l0.length : Int))) (l0.length : Int))) t413).bind fun t418 => ((merkle_Texts.f kj2 l0).bind fun t421 => (if t412 = 0 then (if t414 = 0 then ((merkle_Leaf.f (rdOf ByteArray.empty l0 (Int.tmod (wrap64 ((Int.tmod a1 (l0.length : Int)) + (l0.length : Int))) (l0.length : Int)))).bind fun t425 => ((merkle_Check.f kj2 t411 (l0.length : Int) (Int.tmod (wrap64 ((Int.tmod a1 (l0.length : Int)) + (l0.length : Int))) (l0.length : Int)) t425 t413).bind fun t426 => (if t426 = true then ((mosaiclaw03_awake.f kj2).bind fun t427 => (if t427 = true then (if (t418.length : Int) = (wrap64 ((t413.length : Int) + 1)) then (if (t421.length : Int) > 0 then (if 0 ≤ (wrap64 ((t418.length : Int) - 1)) then (if (wrap64 ((t418.length : Int) - 1)) < (t418.length : Int) then (if 0 ≤ (wrap64 ((t421.length : Int) - 1)) then (if (wrap64 ((t421.length : Int) - 1)) < (t421.length : Int) then (some ((rdOf ByteArray.empty t418 (wrap64 ((t418.length : Int) - 1))).toList == (rdOf ByteArray.empty t421 (wrap64 ((t421.length : Int) - 1))).toList)) else (none)) else (none)) else (none)) else (none)) else (some false)) else (some false)) else (some false))) else (some false)))) else (some false)) else (some false)))) else (none)) else (none)) = some r := H
          have A11 := Aside0.mk A110
          clear A110
          obtain ⟨ji12, hji12⟩ : ∃ j_ : Int, (Int.tmod (wrap64 ((Int.tmod a1 (l0.length : Int)) + (l0.length : Int))) (l0.length : Int)) = j_ := ⟨_, rfl⟩
          replace H : (if 0 ≤ (ji12) then (if (ji12) < (l0.length : Int) then ((merkle_Road.f kj2 (l0.length : Int) (ji12) (rdOf ByteArray.empty l0 (ji12)) t413).bind fun t418 => ((merkle_Texts.f kj2 l0).bind fun t421 => (if t412 = 0 then (if t414 = 0 then ((merkle_Leaf.f (rdOf ByteArray.empty l0 (ji12))).bind fun t425 => ((merkle_Check.f kj2 t411 (l0.length : Int) (ji12) t425 t413).bind fun t426 => (if t426 = true then ((mosaiclaw03_awake.f kj2).bind fun t427 => (if t427 = true then (if (t418.length : Int) = (wrap64 ((t413.length : Int) + 1)) then (if (t421.length : Int) > 0 then (if 0 ≤ (wrap64 ((t418.length : Int) - 1)) then (if (wrap64 ((t418.length : Int) - 1)) < (t418.length : Int) then (if 0 ≤ (wrap64 ((t421.length : Int) - 1)) then (if (wrap64 ((t421.length : Int) - 1)) < (t421.length : Int) then (some ((rdOf ByteArray.empty t418 (wrap64 ((t418.length : Int) - 1))).toList == (rdOf ByteArray.empty t421 (wrap64 ((t421.length : Int) - 1))).toList)) else (none)) else (none)) else (none)) else (none)) else (some false)) else (some false)) else (some false))) else (some false)))) else (some false)) else (some false)))) else (none)) else (none)) = some r := by first | (rw [hji12] at H; exact H) | (simp only [hji12] at H ⊢; exact H)
          (try rw [hji12] at A10)
          (try rw [hji12] at A11)
          by_cases c13 : 0 ≤ (ji12)
          · rw [if_pos c13] at H
            have c13b0 : decide (0 ≤ (ji12)) = true := decide_eq_true c13
            clear c13
            by_cases c14 : (ji12) < (l0.length : Int)
            · rw [if_pos c14] at H
              have c14b0 : decide ((ji12) < (l0.length : Int)) = true := decide_eq_true c14
              clear c14
              replace H := Option.bind_eq_some_iff.mp H
              obtain ⟨t418, A150, H⟩ := H
              replace H : ((merkle_Texts.f kj2 l0).bind fun t421 => (if t412 = 0 then (if t414 = 0 then ((merkle_Leaf.f (rdOf ByteArray.empty l0 (ji12))).bind fun t425 => ((merkle_Check.f kj2 t411 (l0.length : Int) (ji12) t425 t413).bind fun t426 => (if t426 = true then ((mosaiclaw03_awake.f kj2).bind fun t427 => (if t427 = true then (if (t418.length : Int) = (wrap64 ((t413.length : Int) + 1)) then (if (t421.length : Int) > 0 then (if 0 ≤ (wrap64 ((t418.length : Int) - 1)) then (if (wrap64 ((t418.length : Int) - 1)) < (t418.length : Int) then (if 0 ≤ (wrap64 ((t421.length : Int) - 1)) then (if (wrap64 ((t421.length : Int) - 1)) < (t421.length : Int) then (some ((rdOf ByteArray.empty t418 (wrap64 ((t418.length : Int) - 1))).toList == (rdOf ByteArray.empty t421 (wrap64 ((t421.length : Int) - 1))).toList)) else (none)) else (none)) else (none)) else (none)) else (some false)) else (some false)) else (some false))) else (some false)))) else (some false)) else (some false))) = some r := H
              have A15 := Aside0.mk A150
              clear A150
              replace H := Option.bind_eq_some_iff.mp H
              obtain ⟨t421, A160, H⟩ := H
              replace H : (if t412 = 0 then (if t414 = 0 then ((merkle_Leaf.f (rdOf ByteArray.empty l0 (ji12))).bind fun t425 => ((merkle_Check.f kj2 t411 (l0.length : Int) (ji12) t425 t413).bind fun t426 => (if t426 = true then ((mosaiclaw03_awake.f kj2).bind fun t427 => (if t427 = true then (if (t418.length : Int) = (wrap64 ((t413.length : Int) + 1)) then (if (t421.length : Int) > 0 then (if 0 ≤ (wrap64 ((t418.length : Int) - 1)) then (if (wrap64 ((t418.length : Int) - 1)) < (t418.length : Int) then (if 0 ≤ (wrap64 ((t421.length : Int) - 1)) then (if (wrap64 ((t421.length : Int) - 1)) < (t421.length : Int) then (some ((rdOf ByteArray.empty t418 (wrap64 ((t418.length : Int) - 1))).toList == (rdOf ByteArray.empty t421 (wrap64 ((t421.length : Int) - 1))).toList)) else (none)) else (none)) else (none)) else (none)) else (some false)) else (some false)) else (some false))) else (some false)))) else (some false)) else (some false)) = some r := H
              have A16 := Aside0.mk A160
              clear A160
              by_cases c17 : t412 = 0
              · rw [if_pos c17] at H
                have c17b0 : (t412 == 0) = true := beq_iff_eq.mpr c17
                have c17b1 : (t412 != 0) = false := bne_eq_false_iff_eq.mpr c17
                clear c17
                by_cases c18 : t414 = 0
                · rw [if_pos c18] at H
                  have c18b0 : (t414 == 0) = true := beq_iff_eq.mpr c18
                  have c18b1 : (t414 != 0) = false := bne_eq_false_iff_eq.mpr c18
                  clear c18
                  replace H := Option.bind_eq_some_iff.mp H
                  obtain ⟨t425, A190, H⟩ := H
                  replace H : ((merkle_Check.f kj2 t411 (l0.length : Int) (ji12) t425 t413).bind fun t426 => (if t426 = true then ((mosaiclaw03_awake.f kj2).bind fun t427 => (if t427 = true then (if (t418.length : Int) = (wrap64 ((t413.length : Int) + 1)) then (if (t421.length : Int) > 0 then (if 0 ≤ (wrap64 ((t418.length : Int) - 1)) then (if (wrap64 ((t418.length : Int) - 1)) < (t418.length : Int) then (if 0 ≤ (wrap64 ((t421.length : Int) - 1)) then (if (wrap64 ((t421.length : Int) - 1)) < (t421.length : Int) then (some ((rdOf ByteArray.empty t418 (wrap64 ((t418.length : Int) - 1))).toList == (rdOf ByteArray.empty t421 (wrap64 ((t421.length : Int) - 1))).toList)) else (none)) else (none)) else (none)) else (none)) else (some false)) else (some false)) else (some false))) else (some false))) = some r := H
                  have A19 := Aside0.mk A190
                  clear A190
                  replace H := Option.bind_eq_some_iff.mp H
                  obtain ⟨t426, A200, H⟩ := H
                  replace H : (if t426 = true then ((mosaiclaw03_awake.f kj2).bind fun t427 => (if t427 = true then (if (t418.length : Int) = (wrap64 ((t413.length : Int) + 1)) then (if (t421.length : Int) > 0 then (if 0 ≤ (wrap64 ((t418.length : Int) - 1)) then (if (wrap64 ((t418.length : Int) - 1)) < (t418.length : Int) then (if 0 ≤ (wrap64 ((t421.length : Int) - 1)) then (if (wrap64 ((t421.length : Int) - 1)) < (t421.length : Int) then (some ((rdOf ByteArray.empty t418 (wrap64 ((t418.length : Int) - 1))).toList == (rdOf ByteArray.empty t421 (wrap64 ((t421.length : Int) - 1))).toList)) else (none)) else (none)) else (none)) else (none)) else (some false)) else (some false)) else (some false))) else (some false)) = some r := H
                  have A20 := Aside0.mk A200
                  clear A200
                  by_cases c21 : t426 = true
                  · subst c21
                    have H1 : ((mosaiclaw03_awake.f kj2).bind fun t427 => (if t427 = true then (if (t418.length : Int) = (wrap64 ((t413.length : Int) + 1)) then (if (t421.length : Int) > 0 then (if 0 ≤ (wrap64 ((t418.length : Int) - 1)) then (if (wrap64 ((t418.length : Int) - 1)) < (t418.length : Int) then (if 0 ≤ (wrap64 ((t421.length : Int) - 1)) then (if (wrap64 ((t421.length : Int) - 1)) < (t421.length : Int) then (some ((rdOf ByteArray.empty t418 (wrap64 ((t418.length : Int) - 1))).toList == (rdOf ByteArray.empty t421 (wrap64 ((t421.length : Int) - 1))).toList)) else (none)) else (none)) else (none)) else (none)) else (some false)) else (some false)) else (some false))) = some r := by rw [if_pos rfl] at H; exact H
                    clear H
                    have H := H1
                    clear H1
                    replace H := Option.bind_eq_some_iff.mp H
                    obtain ⟨t427, A220, H⟩ := H
                    replace H : (if t427 = true then (if (t418.length : Int) = (wrap64 ((t413.length : Int) + 1)) then (if (t421.length : Int) > 0 then (if 0 ≤ (wrap64 ((t418.length : Int) - 1)) then (if (wrap64 ((t418.length : Int) - 1)) < (t418.length : Int) then (if 0 ≤ (wrap64 ((t421.length : Int) - 1)) then (if (wrap64 ((t421.length : Int) - 1)) < (t421.length : Int) then (some ((rdOf ByteArray.empty t418 (wrap64 ((t418.length : Int) - 1))).toList == (rdOf ByteArray.empty t421 (wrap64 ((t421.length : Int) - 1))).toList)) else (none)) else (none)) else (none)) else (none)) else (some false)) else (some false)) else (some false)) = some r := H
                    have A22 := Aside0.mk A220
                    clear A220
                    by_cases c23 : t427 = true
                    · subst c23
                      have H1 : (if (t418.length : Int) = (wrap64 ((t413.length : Int) + 1)) then (if (t421.length : Int) > 0 then (if 0 ≤ (wrap64 ((t418.length : Int) - 1)) then (if (wrap64 ((t418.length : Int) - 1)) < (t418.length : Int) then (if 0 ≤ (wrap64 ((t421.length : Int) - 1)) then (if (wrap64 ((t421.length : Int) - 1)) < (t421.length : Int) then (some ((rdOf ByteArray.empty t418 (wrap64 ((t418.length : Int) - 1))).toList == (rdOf ByteArray.empty t421 (wrap64 ((t421.length : Int) - 1))).toList)) else (none)) else (none)) else (none)) else (none)) else (some false)) else (some false)) = some r := by rw [if_pos rfl] at H; exact H
                      clear H
                      have H := H1
                      clear H1
                      by_cases c24 : (t418.length : Int) = (wrap64 ((t413.length : Int) + 1))
                      · rw [if_pos c24] at H
                        have c24b0 : ((t418.length : Int) == (wrap64 ((t413.length : Int) + 1))) = true := beq_iff_eq.mpr c24
                        have c24b1 : ((t418.length : Int) != (wrap64 ((t413.length : Int) + 1))) = false := bne_eq_false_iff_eq.mpr c24
                        clear c24
                        by_cases c25 : (t421.length : Int) > 0
                        · rw [if_pos c25] at H
                          have c25b0 : decide (0 < (t421.length : Int)) = true := decide_eq_true c25
                          have c25b1 : decide (0 < t421.length) = true := decide_eq_true (by omega)
                          clear c25
                          obtain ⟨ji26, hji26⟩ : ∃ j_ : Int, (wrap64 ((t418.length : Int) - 1)) = j_ := ⟨_, rfl⟩
                          replace H : (if 0 ≤ (ji26) then (if (ji26) < (t418.length : Int) then (if 0 ≤ (wrap64 ((t421.length : Int) - 1)) then (if (wrap64 ((t421.length : Int) - 1)) < (t421.length : Int) then (some ((rdOf ByteArray.empty t418 (ji26)).toList == (rdOf ByteArray.empty t421 (wrap64 ((t421.length : Int) - 1))).toList)) else (none)) else (none)) else (none)) else (none)) = some r := by first | (rw [hji26] at H; exact H) | (simp only [hji26] at H ⊢; exact H)
                          (try rw [hji26] at A10)
                          (try rw [hji26] at A11)
                          (try rw [hji26] at A15)
                          (try rw [hji26] at A16)
                          (try rw [hji26] at A19)
                          (try rw [hji26] at A20)
                          (try rw [hji26] at A22)
                          have hji26w : (IntKind.i64.wrap ((t418.length : Int) - 1)) = ji26 := (i64_w _).trans hji26
                          by_cases c27 : 0 ≤ (ji26)
                          · rw [if_pos c27] at H
                            have c27b0 : decide (0 ≤ (ji26)) = true := decide_eq_true c27
                            clear c27
                            by_cases c28 : (ji26) < (t418.length : Int)
                            · rw [if_pos c28] at H
                              have c28b0 : decide ((ji26) < (t418.length : Int)) = true := decide_eq_true c28
                              clear c28
                              obtain ⟨ji29, hji29⟩ : ∃ j_ : Int, (wrap64 ((t421.length : Int) - 1)) = j_ := ⟨_, rfl⟩
                              replace H : (if 0 ≤ (ji29) then (if (ji29) < (t421.length : Int) then (some ((rdOf ByteArray.empty t418 (ji26)).toList == (rdOf ByteArray.empty t421 (ji29)).toList)) else (none)) else (none)) = some r := by first | (rw [hji29] at H; exact H) | (simp only [hji29] at H ⊢; exact H)
                              (try rw [hji29] at A10)
                              (try rw [hji29] at A11)
                              (try rw [hji29] at A15)
                              (try rw [hji29] at A16)
                              (try rw [hji29] at A19)
                              (try rw [hji29] at A20)
                              (try rw [hji29] at A22)
                              have hji29w : (IntKind.i64.wrap ((t421.length : Int) - 1)) = ji29 := (i64_w _).trans hji29
                              by_cases c30 : 0 ≤ (ji29)
                              · rw [if_pos c30] at H
                                have c30b0 : decide (0 ≤ (ji29)) = true := decide_eq_true c30
                                clear c30
                                by_cases c31 : (ji29) < (t421.length : Int)
                                · rw [if_pos c31] at H
                                  have c31b0 : decide ((ji29) < (t421.length : Int)) = true := decide_eq_true c31
                                  clear c31
                                  obtain rfl := Option.some.inj H
                                  try go_wp2_with (first | ((with_reducible refine gate_callee (f := 18) rfl ?_); refine goesL_ (some 33) rfl rfl Try.func18 (by kernel_rfl) rfl #[.slice A0 l0.length c0] rfl (by (try simp only [List.map_toArray, List.map_cons, List.map_nil]); first | done | rfl | (simp only [List.length_drop, List.length_take]; rfl)) ?_; (with_reducible refine (merkle_Root.calls kj2 _ _ l0 t411 t412 _ ?side1 ?side2 A10.out).mono ?_); (case side1 => repeat (first | exact (Kd.C_below HR0.out HB.out) | (with_reducible refine Kd.C_alloc ?_ _) | (with_reducible refine Kd.C_drewN ?_ _) | (with_reducible refine Kd.C_drew ?_))); (case side2 => exact HC0.out); rintro e w32 ⟨rfl, hb⟩; refine ⟨_, rfl, ?_⟩; have n0_ := Aside0.mk (below_step (by repeat (first | (with_reducible first | exact HB.out | apply below_alloc | apply pw_below_drewN | apply below_drew1) | exact HB.out)) hb); clear HB; have HB := n0_; clear n0_; (try clear hb); (try clear hb2); (try clear hk); (try clear hi)) | ((with_reducible refine gate_callee (f := 19) rfl ?_); refine goesL_ (some 39) rfl rfl Try.func19 (by kernel_rfl) rfl #[.slice A0 l0.length c0, .int .i64 ji12] rfl (by (try simp only [List.map_toArray, List.map_cons, List.map_nil]); first | done | (simp only [hji12]; rfl) | rfl | (simp only [List.length_drop, List.length_take]; rfl)) ?_; (with_reducible refine (merkle_Path.calls kj2 _ _ l0 ji12 t413 t414 _ ?side1 ?side2 A11.out).mono ?_); (case side1 => repeat (first | exact (Kd.C_below HR0.out HB.out) | (with_reducible refine Kd.C_alloc ?_ _) | (with_reducible refine Kd.C_drewN ?_ _) | (with_reducible refine Kd.C_drew ?_))); (case side2 => exact HC0.out); rintro e w33 ⟨v415, rfl, ho0, hb⟩; refine ⟨_, rfl, ?_⟩; have n0_ := Aside0.mk (Kd.R_lower ho0 (below_size (by repeat (first | (with_reducible first | exact HB.out | apply below_alloc | apply pw_below_drewN | apply below_drew1) | exact HB.out)))); have n1_ := Aside0.mk (below_step (by repeat (first | (with_reducible first | exact HB.out | apply below_alloc | apply pw_below_drewN | apply below_drew1) | exact HB.out)) hb); clear HB; have HO416 := n0_; have HB := n1_; clear n0_ n1_; (try clear hb); (try clear hb2); (try clear hk); (try clear hi); (try clear ho0); have p417 : 0 ≤ ((ji12) : Int) := of_decide_eq_true (by first | (with_reducible assumption) | assumption); have q417 : (ji12) < (l0.length : Int) := of_decide_eq_true (by first | (with_reducible assumption) | assumption); obtain ⟨ad417, e417, hx417_0⟩ := Kd.at_string HR0.out (ji12) p417 q417; cases e417; replace hx417_0 := (HB.out.cell (World.block_lt_of_cell? w _ hx417_0)).trans hx417_0; replace p417 := eq_true p417; replace q417 := eq_true q417; obtain ⟨Ao34, co34, eo34⟩ := Kd.R_slice HO416.out; subst eo34) | ((with_reducible refine gate_callee (f := 16) rfl ?_); refine goesL_ (some 50) rfl rfl Try.func16 (by kernel_rfl) rfl #[.int .i64 (l0.length : Int), .int .i64 ji12, .string (rdOf ByteArray.empty l0 (ji12)), .slice Ao34 t413.length co34] rfl (by (try simp only [List.map_toArray, List.map_cons, List.map_nil]); first | done | (simp only [hji12]; rfl) | rfl | (simp only [List.length_drop, List.length_take]; rfl)) ?_; (with_reducible refine (merkle_Road.calls kj2 (l0.length : Int) ji12 (rdOf ByteArray.empty l0 (ji12)) _ _ t413 t418 _ ?side1 ?side2 A15.out).mono ?_); (case side1 => repeat (first | exact (Kd.R_reads' HO416.out).2.2 | (with_reducible refine Kd.C_alloc ?_ _) | (with_reducible refine Kd.C_drewN ?_ _) | (with_reducible refine Kd.C_drew ?_))); (case side2 => exact (Kd.R_reads' HO416.out).2.1); rintro e w35 ⟨v419, rfl, ho0, hb⟩; refine ⟨_, rfl, ?_⟩; have n0_ := Aside0.mk (Kd.R_elder' (by (with_reducible repeat (first | apply Kd.R_alloc | apply Kd.R_drewN | apply Kd.R_drew)); exact HO416.out) (Kd.R_base ho0) hb); have n1_ := Aside0.mk (Kd.R_lower (Kd.R_new' ho0 (Kd.R_lt (by (with_reducible repeat (first | apply Kd.R_alloc | apply Kd.R_drewN | apply Kd.R_drew)); exact HO416.out))) (below_size (by repeat (first | (with_reducible first | exact HB.out | apply below_alloc | apply pw_below_drewN | apply below_drew1) | exact HB.out)))); have n2_ := Aside0.mk (below_step (by repeat (first | (with_reducible first | exact HB.out | apply below_alloc | apply pw_below_drewN | apply below_drew1) | exact HB.out)) hb); clear HO416; clear HB; have HO416 := n0_; have HO420 := n1_; have HB := n2_; clear n0_ n1_ n2_; (try clear hb); (try clear hb2); (try clear hk); (try clear hi); (try clear ho0)) | ((with_reducible refine gate_callee (f := 20) rfl ?_); refine goesL_ (some 52) rfl rfl Try.func20 (by kernel_rfl) rfl #[.slice (some ad417) l0.length c0] rfl (by (try simp only [List.map_toArray, List.map_cons, List.map_nil]); first | done | rfl | (simp only [List.length_drop, List.length_take]; rfl)) ?_; (with_reducible refine (merkle_Texts.calls kj2 _ _ l0 t421 _ ?side1 ?side2 A16.out).mono ?_); (case side1 => repeat (first | exact (Kd.C_below HR0.out HB.out) | (with_reducible refine Kd.C_alloc ?_ _) | (with_reducible refine Kd.C_drewN ?_ _) | (with_reducible refine Kd.C_drew ?_))); (case side2 => exact HC0.out); rintro e w36 ⟨v422, rfl, ho0, hb⟩; refine ⟨_, rfl, ?_⟩; have n0_ := Aside0.mk (Kd.R_elder' (by (with_reducible repeat (first | apply Kd.R_alloc | apply Kd.R_drewN | apply Kd.R_drew)); exact HO416.out) (Kd.R_base ho0) hb); have n1_ := Aside0.mk (Kd.R_elder' (by (with_reducible repeat (first | apply Kd.R_alloc | apply Kd.R_drewN | apply Kd.R_drew)); exact HO420.out) (Kd.R_base ho0) hb); have n2_ := Aside0.mk (Kd.R_lower (Kd.R_new' (Kd.R_new' ho0 (Kd.R_lt (by (with_reducible repeat (first | apply Kd.R_alloc | apply Kd.R_drewN | apply Kd.R_drew)); exact HO416.out))) (Kd.R_lt (by (with_reducible repeat (first | apply Kd.R_alloc | apply Kd.R_drewN | apply Kd.R_drew)); exact HO420.out))) (below_size (by repeat (first | (with_reducible first | exact HB.out | apply below_alloc | apply pw_below_drewN | apply below_drew1) | exact HB.out)))); have n3_ := Aside0.mk (below_step (by repeat (first | (with_reducible first | exact HB.out | apply below_alloc | apply pw_below_drewN | apply below_drew1) | exact HB.out)) hb); clear HO416; clear HO420; clear HB; have HO416 := n0_; have HO420 := n1_; have HO423 := n2_; have HB := n3_; clear n0_ n1_ n2_ n3_; (try clear hb); (try clear hb2); (try clear hk); (try clear hi); (try clear ho0); have p424 : 0 ≤ ((ji12) : Int) := of_decide_eq_true (by first | (with_reducible assumption) | assumption); have q424 : (ji12) < (l0.length : Int) := of_decide_eq_true (by first | (with_reducible assumption) | assumption); obtain ⟨ad424, e424, hx424_0⟩ := Kd.at_string HR0.out (ji12) p424 q424; obtain rfl : ad417 = ad424 := (by injection e424); replace hx424_0 := (HB.out.cell (World.block_lt_of_cell? w _ hx424_0)).trans hx424_0; replace p424 := eq_true p424; replace q424 := eq_true q424) | (go_at_call 21; (with_reducible refine (merkle_Leaf.calls (rdOf ByteArray.empty l0 (ji12)) t425 _ A19.out).mono ?_); rintro e w37 ⟨rfl, hb⟩; have n0_ := Aside0.mk (Kd.R_below (by (with_reducible repeat (first | apply Kd.R_alloc | apply Kd.R_drewN | apply Kd.R_drew)); exact HO416.out) hb); have n1_ := Aside0.mk (Kd.R_below (by (with_reducible repeat (first | apply Kd.R_alloc | apply Kd.R_drewN | apply Kd.R_drew)); exact HO420.out) hb); have n2_ := Aside0.mk (Kd.R_below (by (with_reducible repeat (first | apply Kd.R_alloc | apply Kd.R_drewN | apply Kd.R_drew)); exact HO423.out) hb); have n3_ := Aside0.mk (below_step (by repeat (first | (with_reducible first | exact HB.out | apply below_alloc | apply pw_below_drewN | apply below_drew1) | exact HB.out)) hb); clear HO416; clear HO420; clear HO423; clear HB; have HO416 := n0_; have HO420 := n1_; have HO423 := n2_; have HB := n3_; clear n0_ n1_ n2_ n3_; (try clear hb); (try clear hb2); (try clear hk); (try clear hi)) | (go_at_call 14; (with_reducible refine (merkle_Check.calls kj2 t411 (l0.length : Int) ji12 t425 _ _ t413 true _ ?side1 ?side2 A20.out).mono ?_); (case side1 => repeat (first | exact (Kd.R_reads' HO416.out).2.2 | (with_reducible refine Kd.C_alloc ?_ _) | (with_reducible refine Kd.C_drewN ?_ _) | (with_reducible refine Kd.C_drew ?_))); (case side2 => exact (Kd.R_reads' HO416.out).2.1); rintro e w38 ⟨rfl, hb⟩; have n0_ := Aside0.mk (Kd.R_below (by (with_reducible repeat (first | apply Kd.R_alloc | apply Kd.R_drewN | apply Kd.R_drew)); exact HO416.out) hb); have n1_ := Aside0.mk (Kd.R_below (by (with_reducible repeat (first | apply Kd.R_alloc | apply Kd.R_drewN | apply Kd.R_drew)); exact HO420.out) hb); have n2_ := Aside0.mk (Kd.R_below (by (with_reducible repeat (first | apply Kd.R_alloc | apply Kd.R_drewN | apply Kd.R_drew)); exact HO423.out) hb); have n3_ := Aside0.mk (below_step (by repeat (first | (with_reducible first | exact HB.out | apply below_alloc | apply pw_below_drewN | apply below_drew1) | exact HB.out)) hb); clear HO416; clear HO420; clear HO423; clear HB; have HO416 := n0_; have HO420 := n1_; have HO423 := n2_; have HB := n3_; clear n0_ n1_ n2_ n3_; (try clear hb); (try clear hb2); (try clear hk); (try clear hi)))
                                  have n0_ := Aside0.mk (Kd.R_drew HO416.out)
                                  have n1_ := Aside0.mk (Kd.R_drew HO420.out)
                                  have n2_ := Aside0.mk (Kd.R_drew HO423.out)
                                  have n3_ := Aside0.mk (below_drew1 HB.out)
                                  clear HO416
                                  clear HO420
                                  clear HO423
                                  clear HB
                                  have HO416 := n0_
                                  have HO420 := n1_
                                  have HO423 := n2_
                                  have HB := n3_
                                  clear n0_ n1_ n2_ n3_
                                  have p428 : 0 ≤ ((ji26) : Int) := of_decide_eq_true (by first | (with_reducible assumption) | assumption)
                                  have q428 : (ji26) < (t418.length : Int) := of_decide_eq_true (by first | (with_reducible assumption) | assumption)
                                  (try (obtain ⟨Aw_1, cw_1, ew_1⟩ := Kd.R_slice HO420.out; subst ew_1))
                                  obtain ⟨ad428, e428, hx428_0⟩ := Kd.at_string (Kd.R_reads' HO420.out).2.2 (ji26) p428 q428
                                  cases e428
                                  replace p428 := eq_true p428
                                  replace q428 := eq_true q428
                                  have p429 : 0 ≤ ((ji29) : Int) := of_decide_eq_true (by first | (with_reducible assumption) | assumption)
                                  have q429 : (ji29) < (t421.length : Int) := of_decide_eq_true (by first | (with_reducible assumption) | assumption)
                                  (try (obtain ⟨Aw_2, cw_2, ew_2⟩ := Kd.R_slice HO423.out; subst ew_2))
                                  obtain ⟨ad429, e429, hx429_0⟩ := Kd.at_string (Kd.R_reads' HO423.out).2.2 (ji29) p429 q429
                                  cases e429
                                  replace p429 := eq_true p429
                                  replace q429 := eq_true q429
                                  refine start_ (n := 30) (S := fun w' => w'.cell? (ad428.add ((ji26)).toNat) = some (.string (rdOf ByteArray.empty t418 (ji26))) ∧ w'.cell? (ad429.add ((ji29)).toNat) = some (.string (rdOf ByteArray.empty t421 (ji29)))) (ds := []) #[false, false, false, false, false, false, false, false, false, false, false, false, false, false, false, false, false, false, false, false, false, false, false, false, false, false, false, false, false, false] (by kernel_rfl) rfl rfl ⟨hx428_0, hx429_0⟩ (fun hHeld => ?_); refine with_tabW mosaiclaw03_MerkleProves.tab10 mosaiclaw03_MerkleProves.bits10 (fun HT_ HW_ => ?_)
                                  generalize w38.drew = w39 at HO416 HO420 HO423 HB hx428_0 hx429_0 hHeld ⊢
                                  refine one_ (i := 0) (N := some 73) #[true, false, false, false, false, false, false, false, false, false, false, false, false, false, false, false, false, false, false, false, false, false, false, false, false, false, false, false, false, false] rfl rfl (one_of HT_.out (by kernel_rfl)) (by decide) (fun K hK => ?_)
                                  refine goes_ Try.func8 (by kernel_rfl) rfl #[] (by rfl) rfl rfl (by (try simp only [List.map_toArray, List.map_cons, List.map_nil]); first | done | rfl | (simp only [List.length_drop, List.length_take]; rfl)) ?_
                                  with_reducible refine (mosaiclaw03_awake.calls kj2  true _ A22.out).mono ?_
                                  rintro e w40 ⟨rfl, hb⟩
                                  have HS0_ := (hb.cell (World.block_lt_of_cell? _ _ (hHeld.1))).trans (hHeld.1)
                                  have HS1_ := (hb.cell (World.block_lt_of_cell? _ _ (hHeld.2))).trans (hHeld.2)
                                  refine ⟨_, rfl, ?_⟩
                                  have n0_ := Aside0.mk (Kd.R_below (by (with_reducible repeat (first | apply Kd.R_alloc | apply Kd.R_drewN | apply Kd.R_drew)); exact HO416.out) hb)
                                  have n1_ := Aside0.mk (Kd.R_below (by (with_reducible repeat (first | apply Kd.R_alloc | apply Kd.R_drewN | apply Kd.R_drew)); exact HO420.out) hb)
                                  have n2_ := Aside0.mk (Kd.R_below (by (with_reducible repeat (first | apply Kd.R_alloc | apply Kd.R_drewN | apply Kd.R_drew)); exact HO423.out) hb)
                                  have n3_ := Aside0.mk (below_step (by repeat (first | (with_reducible first | exact HB.out | apply below_alloc | apply pw_below_drewN | apply below_drew1) | exact HB.out)) hb)
                                  clear HO416
                                  clear HO420
                                  clear HO423
                                  clear HB
                                  have HO416 := n0_
                                  have HO420 := n1_
                                  have HO423 := n2_
                                  have HB := n3_
                                  clear n0_ n1_ n2_ n3_
                                  (try clear hb)
                                  (try clear hb2)
                                  (try clear hk)
                                  (try clear hi)
                                  obtain ⟨Ao41, co41, eo41⟩ := Kd.R_slice HO420.out
                                  (first | subst eo41 | (injection eo41 with f1_ f2_ f3_; have f4_ := f1_.symm; have f5_ := f3_.symm; clear f1_ f2_ f3_; subst f4_; subst f5_))
                                  obtain ⟨Ao42, co42, eo42⟩ := Kd.R_slice HO423.out
                                  (first | subst eo42 | (injection eo42 with f1_ f2_ f3_; have f4_ := f1_.symm; have f5_ := f3_.symm; clear f1_ f2_ f3_; subst f4_; subst f5_))
                                  refine hK.out _ _ ⟨HS0_, HS1_⟩ (fun hHeld => ?_)
                                  clear hK K
                                  refine norm_ (a' := ?_) ?_ ?_
                                  rotate_left
                                  · show Act.put _ (some 73) _ = _
                                    simp only [Act.put, List.setIfInBounds_toArray, List.set_cons_zero, List.set_cons_succ, i64_w, i32_w]
                                    rfl
                                  refine pure_ (i := 1) (N := some 74) (v := ?_) (a' := ?_) #[true, true, false, false, false, false, false, false, false, false, false, false, false, false, false, false, false, false, false, false, false, false, false, false, false, false, false, false, false, false] rfl rfl (any_of HT_.out (by kernel_rfl)) (fun _ _ _ h => h) (Or.inl ⟨by rfl, ?_⟩) ?_ ?_
                                  rotate_left
                                  · intro w'
                                    go_simp
                                    with_reducible rfl
                                  rotate_left
                                  · simp only [Act.put, List.setIfInBounds_toArray, List.set_cons_zero, List.set_cons_succ, i64_w, i32_w]
                                    rfl
                                  refine pure_ (i := 2) (N := some 75) (v := ?_) (a' := ?_) #[true, true, true, false, false, false, false, false, false, false, false, false, false, false, false, false, false, false, false, false, false, false, false, false, false, false, false, false, false, false] rfl rfl (any_of HT_.out (by kernel_rfl)) (fun _ _ _ h => h) (Or.inl ⟨by rfl, ?_⟩) ?_ ?_
                                  rotate_left
                                  · intro w'
                                    go_simp
                                    with_reducible rfl
                                  rotate_left
                                  · simp only [Act.put, List.setIfInBounds_toArray, List.set_cons_zero, List.set_cons_succ, i64_w, i32_w]
                                    rfl
                                  refine pure_ (i := 3) (N := some 76) (v := ?_) (a' := ?_) #[true, true, true, true, false, false, false, false, false, false, false, false, false, false, false, false, false, false, false, false, false, false, false, false, false, false, false, false, false, false] rfl rfl (any_of HT_.out (by kernel_rfl)) (fun _ _ _ h => h) (Or.inl ⟨by rfl, ?_⟩) ?_ ?_
                                  rotate_left
                                  · intro w'
                                    go_simp
                                    with_reducible rfl
                                  rotate_left
                                  · simp only [Act.put, List.setIfInBounds_toArray, List.set_cons_zero, List.set_cons_succ, i64_w, i32_w]
                                    rfl
                                  refine pure_ (i := 4) (N := some 77) (v := ?_) (a' := ?_) #[true, true, true, true, true, false, false, false, false, false, false, false, false, false, false, false, false, false, false, false, false, false, false, false, false, false, false, false, false, false] rfl rfl (any_of HT_.out (by kernel_rfl)) (fun _ _ _ h => h) (Or.inl ⟨by rfl, ?_⟩) ?_ ?_
                                  rotate_left
                                  · intro w'
                                    go_simp
                                    with_reducible rfl
                                  rotate_left
                                  · simp only [Act.put, List.setIfInBounds_toArray, List.set_cons_zero, List.set_cons_succ, i64_w, i32_w]
                                    rfl
                                  refine pure_ (i := 5) (N := some 78) (v := ?_) (a' := ?_) #[true, true, true, true, true, true, false, false, false, false, false, false, false, false, false, false, false, false, false, false, false, false, false, false, false, false, false, false, false, false] rfl rfl (any_of HT_.out (by kernel_rfl)) (fun _ _ _ h => h) (Or.inl ⟨by rfl, ?_⟩) ?_ ?_
                                  rotate_left
                                  · intro w'
                                    go_simp
                                    with_reducible rfl
                                  rotate_left
                                  · simp only [Act.put, List.setIfInBounds_toArray, List.set_cons_zero, List.set_cons_succ, i64_w, i32_w]
                                    rfl
                                  refine pure_ (i := 6) (N := some 79) (v := ?_) (a' := ?_) #[true, true, true, true, true, true, true, false, false, false, false, false, false, false, false, false, false, false, false, false, false, false, false, false, false, false, false, false, false, false] rfl rfl (any_of HT_.out (by kernel_rfl)) (fun _ _ _ h => h) (Or.inl ⟨by rfl, ?_⟩) ?_ ?_
                                  rotate_left
                                  · intro w'
                                    go_simp
                                    with_reducible rfl
                                  rotate_left
                                  · simp only [Act.put, List.setIfInBounds_toArray, List.set_cons_zero, List.set_cons_succ, i64_w, i32_w]
                                    rfl
                                  refine pure_ (i := 7) (N := some 80) (v := ?_) (a' := ?_) #[true, true, true, true, true, true, true, true, false, false, false, false, false, false, false, false, false, false, false, false, false, false, false, false, false, false, false, false, false, false] rfl rfl (any_of HT_.out (by kernel_rfl)) (fun _ _ _ h => h) (Or.inl ⟨by rfl, ?_⟩) ?_ ?_
                                  rotate_left
                                  · intro w'
                                    go_simp
                                    with_reducible rfl
                                  rotate_left
                                  · simp only [Act.put, List.setIfInBounds_toArray, List.set_cons_zero, List.set_cons_succ, i64_w, i32_w]
                                    rfl
                                  refine pure_ (i := 8) (N := some 81) (v := ?_) (a' := ?_) #[true, true, true, true, true, true, true, true, true, false, false, false, false, false, false, false, false, false, false, false, false, false, false, false, false, false, false, false, false, false] rfl rfl (any_of HT_.out (by kernel_rfl)) (fun _ _ _ h => h) (Or.inl ⟨by rfl, ?_⟩) ?_ ?_
                                  rotate_left
                                  · intro w'
                                    go_simp
                                    with_reducible rfl
                                  rotate_left
                                  · simp only [Act.put, List.setIfInBounds_toArray, List.set_cons_zero, List.set_cons_succ, i64_w, i32_w]
                                    rfl
                                  refine pure_ (i := 9) (N := some 82) (v := ?_) (a' := ?_) #[true, true, true, true, true, true, true, true, true, true, false, false, false, false, false, false, false, false, false, false, false, false, false, false, false, false, false, false, false, false] rfl rfl (any_of HT_.out (by kernel_rfl)) (fun _ _ _ h => h) (Or.inl ⟨by rfl, ?_⟩) ?_ ?_
                                  rotate_left
                                  · intro w'
                                    go_simp
                                    with_reducible rfl
                                  rotate_left
                                  · simp only [Act.put, List.setIfInBounds_toArray, List.set_cons_zero, List.set_cons_succ, i64_w, i32_w]
                                    rfl
                                  refine pure_ (i := 10) (N := some 83) (v := ?_) (a' := ?_) #[true, true, true, true, true, true, true, true, true, true, true, false, false, false, false, false, false, false, false, false, false, false, false, false, false, false, false, false, false, false] rfl rfl (any_of HT_.out (by kernel_rfl)) (fun _ _ _ h => h) (Or.inl ⟨by rfl, ?_⟩) ?_ ?_
                                  rotate_left
                                  · intro w'
                                    go_simp
                                    with_reducible rfl
                                  rotate_left
                                  · simp only [Act.put, List.setIfInBounds_toArray, List.set_cons_zero, List.set_cons_succ, i64_w, i32_w]
                                    rfl
                                  refine pure_ (i := 11) (N := some 84) (v := ?_) (a' := ?_) #[true, true, true, true, true, true, true, true, true, true, true, true, false, false, false, false, false, false, false, false, false, false, false, false, false, false, false, false, false, false] rfl rfl (any_of HT_.out (by kernel_rfl)) (fun _ _ _ h => h) (Or.inl ⟨by rfl, ?_⟩) ?_ ?_
                                  rotate_left
                                  · intro w'
                                    go_simp
                                    with_reducible rfl
                                  rotate_left
                                  · simp only [Act.put, List.setIfInBounds_toArray, List.set_cons_zero, List.set_cons_succ, i64_w, i32_w]
                                    rfl
                                  refine pure_ (i := 12) (N := some 85) (v := ?_) (a' := ?_) #[true, true, true, true, true, true, true, true, true, true, true, true, true, false, false, false, false, false, false, false, false, false, false, false, false, false, false, false, false, false] rfl rfl (any_of HT_.out (by kernel_rfl)) (fun _ _ _ h => h) (Or.inl ⟨by rfl, ?_⟩) ?_ ?_
                                  rotate_left
                                  · intro w'
                                    go_simp
                                    with_reducible rfl
                                  rotate_left
                                  · simp only [Act.put, List.setIfInBounds_toArray, List.set_cons_zero, List.set_cons_succ, i64_w, i32_w]
                                    rfl
                                  refine pure_ (i := 13) (N := some 86) (v := ?_) (a' := ?_) #[true, true, true, true, true, true, true, true, true, true, true, true, true, true, false, false, false, false, false, false, false, false, false, false, false, false, false, false, false, false] rfl rfl (any_of HT_.out (by kernel_rfl)) (fun _ _ _ h => h) (Or.inl ⟨by rfl, ?_⟩) ?_ ?_
                                  rotate_left
                                  · intro w'
                                    go_simp
                                    with_reducible rfl
                                  rotate_left
                                  · simp only [Act.put, List.setIfInBounds_toArray, List.set_cons_zero, List.set_cons_succ, i64_w, i32_w]
                                    rfl
                                  refine pure_ (i := 14) (N := some 87) (v := ?_) (a' := ?_) #[true, true, true, true, true, true, true, true, true, true, true, true, true, true, true, false, false, false, false, false, false, false, false, false, false, false, false, false, false, false] rfl rfl (any_of HT_.out (by kernel_rfl)) (fun _ _ _ h => h) (Or.inl ⟨by rfl, ?_⟩) ?_ ?_
                                  rotate_left
                                  · intro w'
                                    go_simp
                                    with_reducible rfl
                                  rotate_left
                                  · simp only [Act.put, List.setIfInBounds_toArray, List.set_cons_zero, List.set_cons_succ, i64_w, i32_w]
                                    rfl
                                  refine pure_ (i := 15) (N := some 88) (v := ?_) (a' := ?_) #[true, true, true, true, true, true, true, true, true, true, true, true, true, true, true, true, false, false, false, false, false, false, false, false, false, false, false, false, false, false] rfl rfl (any_of HT_.out (by kernel_rfl)) (fun _ _ _ h => h) (Or.inl ⟨by rfl, ?_⟩) ?_ ?_
                                  rotate_left
                                  · intro w'
                                    go_simp
                                    with_reducible rfl
                                  rotate_left
                                  · simp only [Act.put, List.setIfInBounds_toArray, List.set_cons_zero, List.set_cons_succ, i64_w, i32_w]
                                    rfl
                                  refine pure_ (i := 16) (N := some 89) (v := ?_) (a' := ?_) #[true, true, true, true, true, true, true, true, true, true, true, true, true, true, true, true, true, false, false, false, false, false, false, false, false, false, false, false, false, false] rfl rfl (any_of HT_.out (by kernel_rfl)) (fun _ _ _ h => h) (Or.inl ⟨by rfl, ?_⟩) ?_ ?_
                                  rotate_left
                                  · intro w'
                                    go_simp
                                    with_reducible rfl
                                  rotate_left
                                  · simp only [Act.put, List.setIfInBounds_toArray, List.set_cons_zero, List.set_cons_succ, i64_w, i32_w]
                                    rfl
                                  refine pure_ (i := 17) (N := some 90) (v := ?_) (a' := ?_) #[true, true, true, true, true, true, true, true, true, true, true, true, true, true, true, true, true, true, false, false, false, false, false, false, false, false, false, false, false, false] rfl rfl (any_of HT_.out (by kernel_rfl)) (fun _ _ _ h => h) (Or.inl ⟨by rfl, ?_⟩) ?_ ?_
                                  rotate_left
                                  · intro w'
                                    go_simp
                                    with_reducible rfl
                                  rotate_left
                                  · simp only [Act.put, List.setIfInBounds_toArray, List.set_cons_zero, List.set_cons_succ, i64_w, i32_w]
                                    rfl
                                  refine pure_ (i := 18) (N := some 91) (v := ?_) (a' := ?_) #[true, true, true, true, true, true, true, true, true, true, true, true, true, true, true, true, true, true, true, false, false, false, false, false, false, false, false, false, false, false] rfl rfl (any_of HT_.out (by kernel_rfl)) (fun _ _ _ h => h) (Or.inl ⟨by rfl, ?_⟩) ?_ ?_
                                  rotate_left
                                  · intro w'
                                    go_simp
                                    with_reducible rfl
                                  rotate_left
                                  · simp only [Act.put, List.setIfInBounds_toArray, List.set_cons_zero, List.set_cons_succ, i64_w, i32_w]
                                    rfl
                                  refine pure_ (i := 19) (N := some 92) (v := ?_) (a' := ?_) #[true, true, true, true, true, true, true, true, true, true, true, true, true, true, true, true, true, true, true, true, false, false, false, false, false, false, false, false, false, false] rfl rfl (any_of HT_.out (by kernel_rfl)) (fun _ _ _ h => h) (Or.inl ⟨by rfl, ?_⟩) ?_ ?_
                                  rotate_left
                                  · intro w'
                                    go_simp
                                    with_reducible rfl
                                  rotate_left
                                  · simp only [Act.put, List.setIfInBounds_toArray, List.set_cons_zero, List.set_cons_succ, i64_w, i32_w]
                                    rfl
                                  refine pure_ (i := 21) (N := some 94) (v := ?_) (a' := ?_) #[true, true, true, true, true, true, true, true, true, true, true, true, true, true, true, true, true, true, true, true, false, true, false, false, false, false, false, false, false, false] rfl rfl (any_of HT_.out (by kernel_rfl)) (fun _ _ _ h => h) (Or.inl ⟨by rfl, ?_⟩) ?_ ?_
                                  rotate_left
                                  · intro w'
                                    go_simp
                                    with_reducible rfl
                                  rotate_left
                                  · simp only [Act.put, List.setIfInBounds_toArray, List.set_cons_zero, List.set_cons_succ, i64_w, i32_w]
                                    rfl
                                  refine pure_ (i := 22) (N := some 95) (v := ?_) (a' := ?_) #[true, true, true, true, true, true, true, true, true, true, true, true, true, true, true, true, true, true, true, true, false, true, true, false, false, false, false, false, false, false] rfl rfl (any_of HT_.out (by kernel_rfl)) (fun _ _ _ h => h) (Or.inl ⟨by rfl, ?_⟩) ?_ ?_
                                  rotate_left
                                  · intro w'
                                    go_simp
                                    with_reducible rfl
                                  rotate_left
                                  · simp only [Act.put, List.setIfInBounds_toArray, List.set_cons_zero, List.set_cons_succ, i64_w, i32_w]
                                    rfl
                                  refine pure_ (i := 23) (N := some 96) (v := ?_) (a' := ?_) #[true, true, true, true, true, true, true, true, true, true, true, true, true, true, true, true, true, true, true, true, false, true, true, true, false, false, false, false, false, false] rfl rfl (any_of HT_.out (by kernel_rfl)) (fun _ _ _ h => h) (Or.inl ⟨by rfl, ?_⟩) ?_ ?_
                                  rotate_left
                                  · intro w'
                                    go_simp
                                    with_reducible rfl
                                  rotate_left
                                  · simp only [Act.put, List.setIfInBounds_toArray, List.set_cons_zero, List.set_cons_succ, i64_w, i32_w]
                                    rfl
                                  refine pure_ (i := 24) (N := some 97) (v := ?_) (a' := ?_) #[true, true, true, true, true, true, true, true, true, true, true, true, true, true, true, true, true, true, true, true, false, true, true, true, true, false, false, false, false, false] rfl rfl (any_of HT_.out (by kernel_rfl)) (fun _ _ _ h => h) (Or.inl ⟨by rfl, ?_⟩) ?_ ?_
                                  rotate_left
                                  · intro w'
                                    go_simp
                                    with_reducible rfl
                                  rotate_left
                                  · simp only [Act.put, List.setIfInBounds_toArray, List.set_cons_zero, List.set_cons_succ, i64_w, i32_w]
                                    rfl
                                  refine pure_ (i := 25) (N := some 98) (v := ?_) (a' := ?_) #[true, true, true, true, true, true, true, true, true, true, true, true, true, true, true, true, true, true, true, true, false, true, true, true, true, true, false, false, false, false] rfl rfl (any_of HT_.out (by kernel_rfl)) (fun _ _ _ h => h) (Or.inl ⟨by rfl, ?_⟩) ?_ ?_
                                  rotate_left
                                  · intro w'
                                    go_simp
                                    with_reducible rfl
                                  rotate_left
                                  · simp only [Act.put, List.setIfInBounds_toArray, List.set_cons_zero, List.set_cons_succ, i64_w, i32_w]
                                    rfl
                                  refine take_ (i := 20) (N := some 93) (v := ?_) (a' := ?_) #[true, true, true, true, true, true, true, true, true, true, true, true, true, true, true, true, true, true, true, true, true, true, true, true, true, true, false, false, false, false] rfl rfl (take_ofW HT_.out HW_.out (by kernel_rfl)) (fun _ _ _ h => h) (Or.inl ⟨by rfl, ?_⟩) hHeld ?_ ?_
                                  rotate_left
                                  · rintro w' ⟨s0, s1⟩
                                    go_simp
                                    with_reducible rfl
                                  rotate_left
                                  · simp only [Act.put, List.setIfInBounds_toArray, List.set_cons_zero, List.set_cons_succ, i64_w, i32_w]
                                    rfl
                                  refine take_ (i := 26) (N := some 99) (v := ?_) (a' := ?_) #[true, true, true, true, true, true, true, true, true, true, true, true, true, true, true, true, true, true, true, true, true, true, true, true, true, true, true, false, false, false] rfl rfl (take_ofW HT_.out HW_.out (by kernel_rfl)) (fun _ _ _ h => h) (Or.inl ⟨by rfl, ?_⟩) hHeld ?_ ?_
                                  rotate_left
                                  · rintro w' ⟨s0, s1⟩
                                    go_simp
                                    with_reducible rfl
                                  rotate_left
                                  · simp only [Act.put, List.setIfInBounds_toArray, List.set_cons_zero, List.set_cons_succ, i64_w, i32_w]
                                    rfl
                                  refine pure_ (i := 27) (N := some 100) (v := ?_) (a' := ?_) #[true, true, true, true, true, true, true, true, true, true, true, true, true, true, true, true, true, true, true, true, true, true, true, true, true, true, true, true, false, false] rfl rfl (any_of HT_.out (by kernel_rfl)) (fun _ _ _ h => h) (Or.inl ⟨by rfl, ?_⟩) ?_ ?_
                                  rotate_left
                                  · intro w'
                                    go_simp
                                    with_reducible rfl
                                  rotate_left
                                  · simp only [Act.put, List.setIfInBounds_toArray, List.set_cons_zero, List.set_cons_succ, i64_w, i32_w]
                                    rfl
                                  refine pure_ (i := 28) (N := some 101) (v := ?_) (a' := ?_) #[true, true, true, true, true, true, true, true, true, true, true, true, true, true, true, true, true, true, true, true, true, true, true, true, true, true, true, true, true, false] rfl rfl (any_of HT_.out (by kernel_rfl)) (fun _ _ _ h => h) (Or.inl ⟨by rfl, ?_⟩) ?_ ?_
                                  rotate_left
                                  · intro w'
                                    go_simp
                                    with_reducible rfl
                                  rotate_left
                                  · simp only [Act.put, List.setIfInBounds_toArray, List.set_cons_zero, List.set_cons_succ, i64_w, i32_w]
                                    rfl
                                  refine pure_ (i := 29) (N := some 4) (v := ?_) (a' := ?_) #[true, true, true, true, true, true, true, true, true, true, true, true, true, true, true, true, true, true, true, true, true, true, true, true, true, true, true, true, true, true] rfl rfl (any_of HT_.out (by kernel_rfl)) (fun _ _ _ h => h) (Or.inl ⟨by rfl, ?_⟩) ?_ ?_
                                  rotate_left
                                  · intro w'
                                    go_simp
                                    with_reducible rfl
                                  rotate_left
                                  · simp only [Act.put, List.setIfInBounds_toArray, List.set_cons_zero, List.set_cons_succ, i64_w, i32_w]
                                    rfl
                                  refine done_ (done_of HT_.out (by kernel_rfl)) ?_
                                  try go_wp2
                                  go_ret
                                  exact ⟨by first | rfl | (simp [errW_none, errW_some] <;> rfl) | (simp only [← hji12, ← hji26, ← hji29]; first | rfl | (simp [errW_none, errW_some] <;> rfl)) | (simp [*, errW_none, errW_some] <;> rfl), by repeat (first | (with_reducible first | exact HB.out | apply below_alloc | apply pw_below_drewN | apply below_drew1) | exact HB.out)⟩
                                · rw [if_neg c31] at H
                                  exact absurd H (by simp)
                              · rw [if_neg c30] at H
                                exact absurd H (by simp)
                            · rw [if_neg c28] at H
                              exact absurd H (by simp)
                          · rw [if_neg c27] at H
                            exact absurd H (by simp)
                        · rw [if_neg c25] at H
                          have c25b0 : decide (0 < (t421.length : Int)) = false := decide_eq_false c25
                          have c25b1 : decide (0 < t421.length) = false := decide_eq_false (by omega)
                          clear c25
                          exact absurd (H.trans (congrArg some HR_.out)) (by simp)
                      · rw [if_neg c24] at H
                        have c24b0 : ((t418.length : Int) == (wrap64 ((t413.length : Int) + 1))) = false := beq_eq_false_iff_ne.mpr c24
                        have c24b1 : ((t418.length : Int) != (wrap64 ((t413.length : Int) + 1))) = true := bne_iff_ne.mpr c24
                        exact absurd (H.trans (congrArg some HR_.out)) (by simp)
                    · replace c23 := Bool.eq_false_iff.mpr c23
                      subst c23
                      have H1 : (some false) = some r := by rw [if_neg (show ¬ (false = true) by decide)] at H; exact H
                      clear H
                      have H := H1
                      clear H1
                      exact absurd (H.trans (congrArg some HR_.out)) (by simp)
                  · replace c21 := Bool.eq_false_iff.mpr c21
                    subst c21
                    have H1 : (some false) = some r := by rw [if_neg (show ¬ (false = true) by decide)] at H; exact H
                    clear H
                    have H := H1
                    clear H1
                    exact absurd (H.trans (congrArg some HR_.out)) (by simp)
                · rw [if_neg c18] at H
                  have c18b0 : (t414 == 0) = false := beq_eq_false_iff_ne.mpr c18
                  have c18b1 : (t414 != 0) = true := bne_iff_ne.mpr c18
                  exact absurd (H.trans (congrArg some HR_.out)) (by simp)
              · rw [if_neg c17] at H
                have c17b0 : (t412 == 0) = false := beq_eq_false_iff_ne.mpr c17
                have c17b1 : (t412 != 0) = true := bne_iff_ne.mpr c17
                exact absurd (H.trans (congrArg some HR_.out)) (by simp)
            · rw [if_neg c14] at H
              exact absurd H (by simp)
          · rw [if_neg c13] at H
            exact absurd H (by simp)
end Go.Proofs.Ytaomblcecjaedaa.P
