/- What the claim on this statement wants of the text YtgcgnnblgimegaaEClear. Not trusted: Lean checks it. -/
import Derived.Test.YtgcgnnblgimegaaK2EIdx
import Derived.StillTailTactics
import Derived.Deep.RegionLaw
namespace Go.Proofs.Ytgcgnnblgimegaa.P
open Go.RowKit Go.Proofs.YtgcgnnblgimegaaW.PrintWords Go.Proofs.YtgcgnnblgimegaaW.PrintLast Go.Proofs.YtgcgnnblgimegaaW.PrintMore
open Go.Proofs.Ytgcgnnblgimegaa.Red
set_option linter.unusedVariables false
set_option linter.unusedSimpArgs false
theorem still_tail {P : Program} {id : Nat} {Q : Exit → Act → World → Prop} {a : Act} {w : World} {l : List Oper} (n : Nat) (hm : P.follows .mixedOrders = true) (hB : Region.lexTailB .any l.toArray n = true)
    (h : wpStill P l.toArray w.drew (fun a' => wpList P l.toArray Q (l.drop n) a' w.drew) (l.take n) a) : (Code.region id l.toArray true).wp P Q a w :=
  wp_region_still_tail n hm hB h
def clrF (i : Nat) (p s : Sd) : Sd := if s.x.testBit i then s.plus p else s
def mid (i : Nat) (p : Sd) (xs : List Sd) (k : Nat) : List Sd := (xs.take k).map (clrF i p) ++ xs.drop k
theorem mid_len (i : Nat) (p : Sd) (xs : List Sd) (k : Nat) : (mid i p xs k).length = xs.length := by
  simp [mid]; omega
theorem mid_zero (i : Nat) (p : Sd) (xs : List Sd) : mid i p xs 0 = xs := by simp [mid]
theorem mid_done (i : Nat) (p : Sd) (xs : List Sd) : mid i p xs xs.length = clr i p xs := by simp [mid, clr, clrF]
theorem mid_at (i : Nat) (p : Sd) (xs : List Sd) (k : Nat) (h : k < xs.length) : (mid i p xs k).getD k zSd = xs.getD k zSd := by
  have h1 : ((xs.take k).map (clrF i p)).length = k := by simp; omega
  unfold mid
  rw [List.getD_eq_getElem?_getD, List.getElem?_append_right (by omega), h1, Nat.sub_self, List.getElem?_drop, Nat.add_zero, List.getD_eq_getElem?_getD]
theorem mid_set (i : Nat) (p : Sd) (xs : List Sd) (k : Nat) (h : k < xs.length) : (mid i p xs k).set k (clrF i p (xs.getD k zSd)) = mid i p xs (k + 1) := by
  have h1 : ((xs.take k).map (clrF i p)).length = k := by simp; omega
  unfold mid
  rw [List.set_append_right _ _ (by omega), h1, Nat.sub_self, List.drop_eq_getElem_cons h, List.set_cons_zero, List.take_succ_eq_append_getElem h, List.map_append]
  simp [List.getD_eq_getElem?_getD, h]
theorem set_same (xs : List Sd) (k : Nat) (h : k < xs.length) : xs.set k (xs.getD k zSd) = xs := by
  apply List.ext_getElem?
  intro j
  rw [List.getElem?_set]
  by_cases e : k = j
  · subst e; simp [h, List.getD_eq_getElem?_getD]
  · simp [e]
theorem mid_skip (i : Nat) (p : Sd) (xs : List Sd) (k : Nat) (h : k < xs.length) (hb : (xs.getD k zSd).x.testBit i = false) : mid i p xs (k + 1) = mid i p xs k := by
  rw [← mid_set i p xs k h]
  unfold clrF
  rw [if_neg (by rw [hb]; decide), ← mid_at i p xs k h, set_same _ _ (by rw [mid_len]; exact h)]
theorem at_sd0 {w : World} {g n : Nat} {xs : List Sd} (h : kSd.C w (some ⟨g, 0, none⟩) n xs) (k : Nat) (h1 : k < n) {s : Sd} (hs : xs.getD k zSd = s) :
    w.cell? ⟨g, k * 4, none⟩ = some (.int .u64 (wd s.x 0)) ∧ w.cell? ⟨g, k * 4 + 1, none⟩ = some (.int .u64 (wd s.x 1)) ∧ w.cell? ⟨g, k * 4 + 2, none⟩ = some (.int .u64 (wd s.x 2)) ∧ w.cell? ⟨g, k * 4 + 3, none⟩ = some (.string s.b) := by
  obtain ⟨ad, e, c0, c1, c2, c3⟩ := at_sd h (k : Int) (by omega) (by omega)
  cases e
  rw [Int.toNat_natCast, hs] at c0 c1 c2 c3
  rw [add_at, Nat.zero_add] at c0 c1 c2 c3
  exact ⟨c0, c1, c2, c3⟩
theorem sd_froz {w : World} {base n c g : Nat} {ok : Nat → Prop} {xs : List Sd} (h : kSd.R 74 w base ok (.slice (some ⟨g, 0, none⟩) n c) xs) (j : Nat) : w.frozen? ⟨g, j, none⟩ = false := by
  obtain ⟨inner, ho⟩ := Kd.R_own h
  rcases ho.2 with ⟨hv, _⟩ | ⟨g', cap', cur, hv, hb, hh, _⟩
  · cases hv
  · cases hv
    exact frozen_of_row w g j _ _ hh
/-- An element written whole. -/
theorem sd_put {w : World} {base n c g : Nat} {ok : Nat → Prop} {xs : List Sd} (h : kSd.R 74 w base ok (.slice (some ⟨g, 0, none⟩) n c) xs) (k : Nat) (h1 : k < n) (s : Sd) :
    kSd.R 74 ((((w.setCell ⟨g, k * 4, none⟩ (.int .u64 (wd s.x 0))).setCell ⟨g, k * 4 + 1, none⟩ (.int .u64 (wd s.x 1))).setCell ⟨g, k * 4 + 2, none⟩ (.int .u64 (wd s.x 2))).setCell ⟨g, k * 4 + 3, none⟩ (.string s.b)) base ok (.slice (some ⟨g, 0, none⟩) n c) (xs.set k s) ∧
    w.grownBy ((((w.setCell ⟨g, k * 4, none⟩ (.int .u64 (wd s.x 0))).setCell ⟨g, k * 4 + 1, none⟩ (.int .u64 (wd s.x 1))).setCell ⟨g, k * 4 + 2, none⟩ (.int .u64 (wd s.x 2))).setCell ⟨g, k * 4 + 3, none⟩ (.string s.b)) (some g) := by
  obtain ⟨hn, hc, hC⟩ := Kd.R_reads' h
  subst hn
  obtain ⟨c0, c1, c2, c3⟩ := at_sd0 hC k h1 rfl
  have := Kd.R_seg (okp := fun _ => False) h (k : Int) (by omega) (by omega) (c := sdC (xs.getD k zSd)) (seg := sdC s) (j := 0) (x' := s) rfl (fun j u hj => by
    rw [Int.toNat_natCast]
    match j, hj with
    | 0, hj => cases hj; exact c0
    | 1, hj => cases hj; exact c1
    | 2, hj => cases hj; exact c2
    | 3, hj => cases hj; exact c3
    | j + 4, hj => simp [sdC] at hj) (by exact Nat.le_refl 4) (by rfl) (fun _ hk => hk.elim)
  rw [Int.toNat_natCast] at this
  exact this
/-- What stands while the loop runs. -/
structure ClW (W wr : World) (base : Nat) (ok : Nat → Prop) (gi gp : Nat) (i : Int) (p : Sd) (v : Value) (xs : List Sd) : Prop where
  own : Kd.R kSd 74 wr base ok v xs
  gr : W.grownBy wr v.ownBlock
  hi : wr.cell? ⟨gi, 0, none⟩ = some (.int .i64 i)
  hp : wr.heap[gp]? = some (.cells #[.int .u64 (wd p.x 0), .int .u64 (wd p.x 1), .int .u64 (wd p.x 2), .string p.b] 74 (0, 0))
  ni : some gi ≠ v.ownBlock
  np : some gp ≠ v.ownBlock
theorem ClW.grown {W wr w1 : World} {base : Nat} {ok : Nat → Prop} {gi gp : Nat} {i : Int} {p : Sd} {v : Value} {xs ys : List Sd} (h : ClW W wr base ok gi gp i p v xs) (hg : wr.grownBy w1 v.ownBlock) (ho : Kd.R kSd 74 w1 base ok v ys) : ClW W w1 base ok gi gp i p v ys :=
  ⟨ho, h.gr.trans hg, hg.cell h.hi h.ni, (hg.block _ (Array.getElem?_eq_some_iff.1 h.hp).1 h.np).trans h.hp, h.ni, h.np⟩
theorem ClW.later {W wr w1 : World} {base : Nat} {ok : Nat → Prop} {gi gp : Nat} {i : Int} {p : Sd} {v : Value} {xs : List Sd} (h : ClW W wr base ok gi gp i p v xs) (hb : Below wr.heap.size wr w1) : ClW W w1 base ok gi gp i p v xs :=
  h.grown (grown_of_below hb _) (Kd.R_below h.own hb)
set_option maxHeartbeats 1000000 in
set_option maxRecDepth 100000 in
theorem clear_calls (W : World) (base : Nat) (ok : Nat → Prop) (gi gp : Nat) (i : Int) (h0 : 0 ≤ i) (h1 : i < 192) (p : Sd) (v : Value) (xs : List Sd) (hs : ∀ s ∈ xs, s.b.size ≤ 9223372036854775807)
    (HW : ClW W W base ok gi gp i p v xs) :
    Calls Try.prog 78 #[v, .pointer (some ⟨gi, 0, none⟩), .pointer (some ⟨gp, 0, none⟩)] W fun e w' => e = .returned (.tuple #[]) ∧ ClW W w' base ok gi gp i p v (clr i.toNat p xs) := by
  obtain ⟨A, c, rfl⟩ := Kd.R_slice HW.own
  have HW := Aside0.mk HW
  have HS := Aside0.mk hs
  have hmax := (Kd.R_reads' HW.out.own).2.2.2.1
  clear hs
  go_enter Try.func78, Try.ntmps78
  go_wp2_with fail
  go_loopw [7] (fun v7 wr => ∃ k : Nat, k ≤ xs.length ∧ v7 = .int .i64 k ∧ Aside0 (ClW W wr base ok gi gp i p (.slice A xs.length c) (mid i.toNat p xs k))) (fun v7 _ => xs.length - (intOf v7).toNat)
  case atStart => exact ⟨0, Nat.zero_le _, rfl, ⟨by rw [mid_zero]; exact HW.out⟩⟩
  case round =>
    obtain ⟨k, hk, rfl, HA⟩ := hrel
    by_cases hlt : k < xs.length
    · obtain ⟨g, cap, ev, _, hgl, _⟩ := Kd.R_form HA.out.own (by rw [mid_len]; omega)
      rw [mid_len] at ev
      cases ev
      have hc := (Kd.R_reads' HA.out.own).2.2
      obtain ⟨s, hs⟩ : ∃ s, s = xs.getD k zSd := ⟨_, rfl⟩
      have HSS := Aside0.mk hs
      obtain ⟨c0, c1, c2, c3⟩ := at_sd0 hc k (by rw [mid_len]; exact hlt) ((mid_at _ _ _ _ hlt).trans hs.symm)
      have hi := HA.out.hi
      have HC := Aside0.mk (fun w => has_calls s.x i h0 h1 w)
      unfold rowV at HC
      have hlt' : (k : Int) < (xs.length : Int) := by omega
      clear hs hc
      cases hb : s.x.testBit i.toNat with
      | false =>
        rw [hb] at HC
        have HM := Aside0.mk (mid_skip i.toNat p xs k hlt (by rw [← HSS.out]; exact hb))
        clear hb
        go_wp2_with fail
        refine still_tail 6 (by kernel_rfl) (by kernel_rfl) ?_
        simp only [List.take_succ_cons, List.take_zero, List.drop_succ_cons, List.drop_zero]
        repeat still_step
        refine wpStill_nil ?_
        go_wp2_with fail
        refine (HC.out _).mono ?_
        rintro e w1 ⟨rfl, hb1⟩
        have HA1 := Aside0.mk ((HA.out.later (below_drew1 (Below.refl _ wr))).later hb1)
        clear hb1 c0 c1 c2 c3 hi HC HA
        go_wp2_with fail
        go_roundw
        case rel => exact ⟨k + 1, by omega, by go_num, by rw [HM.out]; exact HA1⟩
        case measure => simp [intOf]; omega
      | true =>
        rw [hb] at HC
        have HM := Aside0.mk (mid_set i.toNat p xs k hlt)
        have HE : Aside0 (clrF i.toNat p (xs.getD k zSd) = s.plus p) := ⟨by rw [← HSS.out]; unfold clrF; rw [if_pos hb]⟩
        clear hb
        go_wp2_with fail
        refine still_tail 6 (by kernel_rfl) (by kernel_rfl) ?_
        simp only [List.take_succ_cons, List.take_zero, List.drop_succ_cons, List.drop_zero]
        repeat still_step
        refine wpStill_nil ?_
        go_wp2_with fail
        refine (HC.out _).mono ?_
        rintro e w1 ⟨rfl, hb1⟩
        have HA1 := Aside0.mk ((HA.out.later (below_drew1 (Below.refl _ wr))).later hb1)
        clear hb1 c0 c1 c2 c3 hi HC HA
        obtain ⟨c0, c1, c2, c3⟩ := at_sd0 (Kd.R_reads' HA1.out.own).2.2 k (by rw [mid_len]; exact hlt) ((mid_at _ _ _ _ hlt).trans HSS.out.symm)
        obtain ⟨d0, d1, d2, d3, -⟩ := cell4 HA1.out.hp
        have HP := Aside0.mk (plus_calls s p (HS.out s (by rw [HSS.out]; simp [List.getD_eq_getElem?_getD, hlt])))
        unfold sdV at HP
        go_wp2_with fail
        go_region_law (go_simp; go_at_call 79; refine (HP.out _).mono ?_; rintro e w2 ⟨rfl, hb2⟩; have HA2 := Aside0.mk ((HA1.out.later (below_drew1 (Below.refl _ w1))).later hb2); clear hb2 c0 c1 c2 c3; obtain ⟨c0, c1, c2, c3⟩ := at_sd0 (Kd.R_reads' HA2.out.own).2.2 k (by rw [mid_len]; exact hlt) ((mid_at _ _ _ _ hlt).trans HSS.out.symm); have hf := sd_froz HA2.out.own)
        all_goals
          have HPUT := Aside0.mk (sd_put HA2.out.own k hlt (s.plus p))
          rw [← HE.out, HM.out, HE.out] at HPUT
          go_wp2_with fail
          go_roundw
          case rel => exact ⟨k + 1, by omega, by go_num, ⟨HA2.out.grown HPUT.out.2 HPUT.out.1⟩⟩
          case measure => simp [intOf]; omega
    · obtain rfl : k = xs.length := by omega
      have HX : Aside0 (ClW W wr base ok gi gp i p (.slice A xs.length c) (clr i.toNat p xs)) := ⟨by rw [← mid_done]; exact HA.out⟩
      clear HA
      go_wp2_with fail
      go_end0
      exact ⟨rfl, HX.out⟩
end Go.Proofs.Ytgcgnnblgimegaa.P
