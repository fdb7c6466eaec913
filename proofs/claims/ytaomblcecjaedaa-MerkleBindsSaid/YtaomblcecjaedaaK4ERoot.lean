/- What the claim on this statement wants of the text YtaomblcecjaedaaERoot. Not trusted: Lean checks it. -/
import Derived.Test.YtaomblcecjaedaaK4Px3
import Derived.Test.YtaomblcecjaedaaK4EMay
import Derived.Test.YtaomblcecjaedaaK4EScope
namespace Go.Proofs.Ytaomblcecjaedaa.P
open Go.RowKit Go.Proofs.YtaomblcecjaedaaW.PrintWords Go.Proofs.YtaomblcecjaedaaW.PrintLast Go.Proofs.YtaomblcecjaedaaW.PrintMore
set_option linter.unusedVariables false
set_option linter.unusedSimpArgs false
def merkle_Root.l0 : Nat → List ByteArray → Option (ByteArray × Int)
  | 0, _ => none
  | k + 1, l => if l.length = 1 then some (rdOf ByteArray.empty l 0, 0) else (merkle_pairs.f k l).bind fun m => merkle_Root.l0 k m
def merkle_Root.f (k : Nat) (l0 : List ByteArray) : Option (ByteArray × Int) :=
  (merkle_may.f l0).bind fun t => if t = 0 then (merkle_digests.f k l0).bind fun d => merkle_Root.l0 k d else some ((⟨#[]⟩ : ByteArray), t)
set_option maxHeartbeats 8000000 in
set_option maxRecDepth 100000 in
theorem merkle_Root.calls (k : Nat) (A0 : Option Addr) (c0 : Nat) (l0 : List ByteArray) (r1 : ByteArray) (r2 : Int) (w : World) (hr0 : Kd.C Kd.string w A0 l0.length l0) (hc0 : l0.length ≤ c0) (h : merkle_Root.f k l0 = some (r1, r2)) :
    Calls Try.prog 18 #[.slice A0 l0.length c0] w fun e w' => e = .returned (.tuple #[.string r1, .int .i64 r2]) ∧ Below w.heap.size w w' := by
  have HR0 := Aside0.mk hr0
  have HC0 := Aside0.mk hc0
  clear hr0 hc0
  unfold merkle_Root.f at h
  obtain ⟨t, ht, h⟩ := Option.bind_eq_some_iff.mp h
  have HT := Aside0.mk ht
  clear ht
  by_cases h0 : t = 0
  · rw [if_pos h0] at h
    obtain ⟨d, hd, h⟩ := Option.bind_eq_some_iff.mp h
    have HD := Aside0.mk hd
    have H := Aside0.mk h
    have ht0 : (t != 0) = false := bne_eq_false_iff_eq.mpr h0
    clear hd h h0
    go_enter Try.func18, Try.ntmps18
    go_wp2_with fail
    refine wp_scope_ghost 0 k (fun n a' w' => ∃ (l : List ByteArray) (v u4 u6 u7 u8 u9 u10 u11 u12 u13 u14 u15 u16 u17 u18 u19 u20 : Value),
      a' = { tmps := #[.slice A0 l0.length c0, undef, .string ⟨#[]⟩, .int .i64 0, u4, v, u6, u7, u8, u9, u10, u11, u12, u13, u14, u15, u16, u17, u18, u19, u20], defers := [] } ∧
      Aside0 (merkle_Root.l0 n l = some (r1, r2)) ∧ Aside0 (Kd.R Kd.string 9 w' w.heap.size (fun _ => True) v l) ∧ Aside0 (Below w.heap.size w w')) rfl ?_ ?_
    · go_wp2_with fail
      refine (merkle_may.calls _ _ _ _ _ HR0.out HC0.out HT.out).mono ?_
      rintro e w1 ⟨rfl, hb1⟩
      have HB1 := Aside0.mk hb1
      clear hb1
      go_wp2_with fail
      refine (merkle_digests.calls k _ _ _ _ _ (Kd.C_below HR0.out HB1.out) HC0.out HD.out).mono ?_
      rintro e w2 ⟨v, rfl, ho, hb2⟩
      have HO := Aside0.mk (Kd.R_lower ho (below_size HB1.out))
      have HB := Aside0.mk (below_step HB1.out hb2)
      clear ho hb2 HB1
      obtain ⟨A5, c5, e5⟩ := Kd.R_slice HO.out
      subst e5
      cases k with
      | zero => exact absurd H.out (by simp [merkle_Root.l0])
      | succ k1 =>
        have h := H.out
        clear H
        simp only [merkle_Root.l0] at h
        by_cases hl : d.length = 1
        · rw [if_pos hl] at h
          have hl1 : ((d.length : Int) == 1) = true := by rw [hl]; rfl
          have h0l : (0 : Int) < (d.length : Int) := by omega
          simp only [Option.some.injEq, Prod.mk.injEq] at h
          obtain ⟨rfl, rfl⟩ := h
          obtain ⟨ad, e, hx⟩ := Kd.at_string (Kd.R_reads' HO.out).2.2 0 (by omega) h0l
          cases e
          simp only [Int.toNat_zero, Addr.add_zero'] at hx
          clear hl
          go_wp2_with fail
          go_step3
          go_wp2_with fail
          try simp only [Exit.jump]
          go_ret2
          exact ⟨rfl, HB.out⟩
        · rw [if_neg hl] at h
          obtain ⟨m, hm, h⟩ := Option.bind_eq_some_iff.mp h
          have hl1 : ((d.length : Int) == 1) = false := beq_eq_false_iff_ne.2 (by omega)
          have HM := Aside0.mk hm
          have H := Aside0.mk h
          clear hl hm h
          go_wp2_with fail
          go_step3
          go_wp2_with fail
          refine (merkle_pairs.calls (k1) _ _ _ _ _ (Kd.R_reads' HO.out).2.2 (Kd.R_reads' HO.out).2.1 HM.out).mono ?_
          rintro e w3 ⟨v2, rfl, ho, hb3⟩
          have HO2 := Aside0.mk (Kd.R_lower ho (below_size HB.out))
          have HB2 := Aside0.mk (below_step HB.out hb3)
          clear ho hb3 HO HB
          go_wp2_with fail
          go_step3
          refine ⟨rfl, k1, by omega, m, v2, _, _, _, _, _, _, _, _, _, _, _, _, _, _, _, _, rfl, H, HO2, HB2⟩
    · rintro n a' w' ⟨d, v, u4, u6, u7, u8, u9, u10, u11, u12, u13, u14, u15, u16, u17, u18, u19, u20, rfl, H, HO, HB⟩
      obtain ⟨A5, c5, e5⟩ := Kd.R_slice HO.out
      subst e5
      cases n with
      | zero => exact absurd H.out (by simp [merkle_Root.l0])
      | succ k1 =>
        have h := H.out
        clear H
        simp only [merkle_Root.l0] at h
        by_cases hl : d.length = 1
        · rw [if_pos hl] at h
          have hl1 : ((d.length : Int) == 1) = true := by rw [hl]; rfl
          have h0l : (0 : Int) < (d.length : Int) := by omega
          simp only [Option.some.injEq, Prod.mk.injEq] at h
          obtain ⟨rfl, rfl⟩ := h
          obtain ⟨ad, e, hx⟩ := Kd.at_string (Kd.R_reads' HO.out).2.2 0 (by omega) h0l
          cases e
          simp only [Int.toNat_zero, Addr.add_zero'] at hx
          clear hl
          go_wp2_with fail
          try simp only [Exit.jump]
          go_ret2
          exact ⟨rfl, HB.out⟩
        · rw [if_neg hl] at h
          obtain ⟨m, hm, h⟩ := Option.bind_eq_some_iff.mp h
          have hl1 : ((d.length : Int) == 1) = false := beq_eq_false_iff_ne.2 (by omega)
          have HM := Aside0.mk hm
          have H := Aside0.mk h
          clear hl hm h
          go_wp2_with fail
          refine (merkle_pairs.calls (k1) _ _ _ _ _ (Kd.R_reads' HO.out).2.2 (Kd.R_reads' HO.out).2.1 HM.out).mono ?_
          rintro e w3 ⟨v2, rfl, ho, hb3⟩
          have HO2 := Aside0.mk (Kd.R_lower ho (below_size HB.out))
          have HB2 := Aside0.mk (below_step HB.out hb3)
          clear ho hb3 HO HB
          go_wp2_with fail
          go_step3
          refine ⟨rfl, k1, by omega, m, v2, _, _, _, _, _, _, _, _, _, _, _, _, _, _, _, _, rfl, H, HO2, HB2⟩
  · rw [if_neg h0] at h
    simp only [Option.some.injEq, Prod.mk.injEq] at h
    obtain ⟨rfl, rfl⟩ := h
    have ht0 : (t != 0) = true := bne_iff_ne.mpr h0
    clear h0
    go_enter Try.func18, Try.ntmps18
    go_wp2_with fail
    refine wp_scope_ghost 0 0 (fun n a' w' => False) rfl ?_ (fun _ _ _ h => h.elim)
    go_wp2_with fail
    refine (merkle_may.calls _ _ _ _ _ HR0.out HC0.out HT.out).mono ?_
    rintro e w1 ⟨rfl, hb1⟩
    have HB1 := Aside0.mk hb1
    clear hb1
    go_wp2_with fail
    try simp only [Exit.jump]
    go_ret2
    exact ⟨rfl, HB1.out⟩
end Go.Proofs.Ytaomblcecjaedaa.P
