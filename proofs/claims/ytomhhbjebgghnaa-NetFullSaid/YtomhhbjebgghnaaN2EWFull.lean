/- What the claim on this statement wants of the text YtomhhbjebgghnaaEWFull. Not trusted: Lean checks it. -/
import Derived.Test.YtomhhbjebgghnaaN2ENet8
import Derived.IntWalk
import Derived.Test.YtomhhbjebgghnaaN2PxA3
import Derived.Test.YtomhhbjebgghnaaN2Px1
namespace Go.Proofs.Ytomhhbjebgghnaa.P
open Go.RowKit Go.Proofs.YtomhhbjebgghnaaW.PrintWords Go.Proofs.YtomhhbjebgghnaaW.PrintLast Go.Proofs.YtomhhbjebgghnaaW.PrintMore
open Go.Proofs.Ytomhhbjebgghnaa.Emap
set_option linter.unusedVariables false
set_option linter.unusedSimpArgs false
/-- A datagram of a number. -/
def gramS (i : Int) : S29 := ⟨1 + i % 15, 1 + (i + 1) % 15, ⟨#[120]⟩⟩
theorem gramS_calls (i : Int) (h0 : 0 ≤ i) (h1 : i ≤ 1000) (w : World) : Calls Try.prog 10 #[.int .i64 i] w fun e w' => e = .returned (.agg #[.int .i64 (gramS i).f0, .int .i64 (gramS i).f1, .string (gramS i).f2]) ∧ Below w.heap.size w w' := by
  refine mosaiclaw21_gram.calls i _ _ _ w ?_
  unfold mosaiclaw21_gram.f gramS
  have e1 : Int.tmod i 15 = i % 15 := Int.tmod_eq_emod_of_nonneg h0
  have e2 : wrap64 (i + 1) = i + 1 := IntWalk.wrap64_in _ (by omega)
  have e3 : Int.tmod (i + 1) 15 = (i + 1) % 15 := Int.tmod_eq_emod_of_nonneg (by omega)
  rw [e1, e2, e3]
  have a1 := Int.emod_nonneg i (show (15 : Int) ≠ 0 by decide)
  have a2 := Int.emod_lt_of_pos i (show (0 : Int) < 15 by decide)
  have a3 := Int.emod_nonneg (i + 1) (show (15 : Int) ≠ 0 by decide)
  have a4 := Int.emod_lt_of_pos (i + 1) (show (0 : Int) < 15 by decide)
  rw [IntWalk.wrap64_in (1 + i % 15) (by omega), IntWalk.wrap64_in (1 + (i + 1) % 15) (by omega)]
theorem gramS_send (i : Int) : sendB (gramS i) = true := by
  have a1 := Int.emod_nonneg i (show (15 : Int) ≠ 0 by decide)
  have a2 := Int.emod_lt_of_pos i (show (0 : Int) < 15 by decide)
  have a3 := Int.emod_nonneg (i + 1) (show (15 : Int) ≠ 0 by decide)
  have a4 := Int.emod_lt_of_pos (i + 1) (show (0 : Int) < 15 by decide)
  unfold sendB pB gramS
  have e : ((1 + i % 15 : Int) == 1 + (i + 1) % 15) = false := beq_eq_false_iff_ne.2 (by omega)
  show (decide (1 ≤ 1 + i % 15) && decide (1 + i % 15 ≤ 15)) && (decide (1 ≤ 1 + (i + 1) % 15) && decide (1 + (i + 1) % 15 ≤ 15)) && !((1 + i % 15 : Int) == 1 + (i + 1) % 15) && decide ((⟨#[120]⟩ : ByteArray).size ≤ 400) = true
  rw [e, decide_eq_true (show (1 : Int) ≤ 1 + i % 15 by omega), decide_eq_true (show (1 + i % 15 : Int) ≤ 15 by omega), decide_eq_true (show (1 : Int) ≤ 1 + (i + 1) % 15 by omega), decide_eq_true (show (1 + (i + 1) % 15 : Int) ≤ 15 by omega)]
  decide
/-- The datagrams that are under way when k were sent. -/
def grams (k : Nat) : List (Int × S29) := (List.range k).map fun (i : Nat) => ((i : Int) + 1, gramS i)
theorem grams_succ (k : Nat) : grams (k + 1) = grams k ++ [((k : Int) + 1, gramS k)] := by
  unfold grams
  rw [List.range_succ, List.map_append]; rfl
theorem grams_len (k : Nat) : (grams k).length = k := by unfold grams; simp
theorem grams_mem (k i : Nat) (h : i < k) : ((i : Int) + 1, gramS i) ∈ grams k := List.mem_map.2 ⟨i, List.mem_range.2 h, rfl⟩
theorem grams_ok : ∀ k : Nat, k ≤ 1000 → NetOk k (grams k)
  | 0, _ => NetOk.nil
  | k + 1, h => by
    rw [grams_succ]
    exact (grams_ok k (by omega)).put (by omega) _
theorem grams_nth (k i : Nat) (h : i < k) : nthV (grams k) i = (i : Int) + 1 := by
  unfold nthV
  rw [grams_len, if_neg (by omega), show ((i : Int) % (k : Int)) = i from Int.emod_eq_of_lt (by omega) (by omega)]
  simp [rd, grams, h]
theorem grams_cut_len (k i : Nat) (h : i < k) : (cut (grams k) ((i : Int) + 1)).length + 1 = k := by
  have hc : cut (grams k) ((i : Int) + 1) = (grams k).filter fun p => decide (p.1 ≠ (i : Int) + 1) := rfl
  have h1 : (grams k).countP (fun p => decide (p.1 = (i : Int) + 1)) = 1 := by
    have h2 : (grams k).countP (fun p => decide (p.1 = (i : Int) + 1)) = (List.range k).count i := by
      unfold grams
      rw [List.countP_map, List.count]
      refine List.countP_congr fun a _ => ?_
      simp
      omega
    rw [h2]
    rw [List.nodup_range.count, if_pos (List.mem_range.2 h)]
  have h3 := List.length_eq_countP_add_countP (l := grams k) (fun p => decide (p.1 = (i : Int) + 1))
  rw [h1, grams_len] at h3
  rw [hc, ← List.countP_eq_length_filter]
  have h4 : (grams k).countP (fun p => decide (p.1 ≠ (i : Int) + 1)) = (grams k).countP (fun a => decide ¬(decide (a.1 = (i : Int) + 1)) = true) := List.countP_congr fun a _ => by simp
  omega
theorem first_mem {M : List (Int × S29)} (h : 0 < M.length) : ∃ x : S29, (nthV M 0, x) ∈ M := by
  cases M with
  | nil => cases h
  | cons p M =>
    refine ⟨p.2, ?_⟩
    have e : nthV (p :: M) 0 = p.1 := by
      unfold nthV
      rw [if_neg (by simp)]
      simp [rd]
    rw [e]
    exact List.mem_cons_self
theorem eqG (x y : S29) (w : World) : (Op.equalIn 10000 29 (.agg #[.int .i64 x.f0, .int .i64 x.f1, .string x.f2]) (.agg #[.int .i64 y.f0, .int .i64 y.f1, .string y.f2])).run Try.prog w = .ok (x.f0 == y.f0 && (x.f1 == y.f1 && (x.f2.toList == y.f2.toList))) w := by
  exact eqA29 9998 w _ _ _ _ _ _
theorem eqGG (x : S29) (w : World) : (Op.equalIn 10000 29 (.agg #[.int .i64 x.f0, .int .i64 x.f1, .string x.f2]) (.agg #[.int .i64 x.f0, .int .i64 x.f1, .string x.f2])).run Try.prog w = .ok true w := by
  rw [eqG]; simp
theorem roomR (room : Int) : 1 ≤ wrap64 (1 + (wrap64 (room.tmod 600 + 600)).tmod 600) ∧ wrap64 (1 + (wrap64 (room.tmod 600 + 600)).tmod 600) ≤ 600 := by
  have h1 := Int.tmod_lt_of_pos room (show (0 : Int) < 600 by decide)
  have h2 := Int.lt_tmod_of_pos room (show (0 : Int) < 600 by decide)
  have e1 : wrap64 (room.tmod 600 + 600) = room.tmod 600 + 600 := IntWalk.wrap64_in _ (by omega)
  rw [e1]
  have h3 := Int.tmod_lt_of_pos (room.tmod 600 + 600) (show (0 : Int) < 600 by decide)
  have h4 := Int.tmod_nonneg 600 (show (0 : Int) ≤ room.tmod 600 + 600 by omega)
  have e2 : wrap64 (1 + (room.tmod 600 + 600).tmod 600) = 1 + (room.tmod 600 + 600).tmod 600 := IntWalk.wrap64_in _ (by omega)
  rw [e2]; omega
theorem whichR (which R : Int) (h1 : 1 ≤ R) (h2 : R ≤ 600) : 0 ≤ (wrap64 (which.tmod R + R)).tmod R ∧ (wrap64 (which.tmod R + R)).tmod R < R := by
  have h3 := Int.tmod_lt_of_pos which (show (0 : Int) < R by omega)
  have h4 := Int.lt_tmod_of_pos which (show (0 : Int) < R by omega)
  have e1 : wrap64 (which.tmod R + R) = which.tmod R + R := IntWalk.wrap64_in _ (by omega)
  rw [e1]
  exact ⟨Int.tmod_nonneg R (by omega), Int.tmod_lt_of_pos _ (by omega)⟩
set_option maxHeartbeats 1000000 in
set_option maxRecDepth 100000 in
theorem netFull_calls (room which : Int) (w : World) :
    Calls Try.prog 3 #[.int .i64 room, .int .i64 which] w fun e w' => e = .returned (.bool true) ∧ Below w.heap.size w w' := by
  have HA := Aside0.mk awake_calls
  obtain ⟨Ri, hRi⟩ : ∃ R, R = wrap64 (1 + (wrap64 (room.tmod 600 + 600)).tmod 600) := ⟨_, rfl⟩
  obtain ⟨hR1, hR2⟩ : 1 ≤ Ri ∧ Ri ≤ 600 := by rw [hRi]; exact roomR room
  obtain ⟨Hi, hHi⟩ : ∃ H, H = (wrap64 (which.tmod Ri + Ri)).tmod Ri := ⟨_, rfl⟩
  obtain ⟨hH1, hH2⟩ : 0 ≤ Hi ∧ Hi < Ri := by rw [hHi]; exact whichR which Ri hR1 hR2
  obtain ⟨R, rfl⟩ := Int.eq_ofNat_of_zero_le (show 0 ≤ Ri by omega)
  obtain ⟨H, rfl⟩ := Int.eq_ofNat_of_zero_le hH1
  have hR0 : ((R : Int) == 0) = false := beq_eq_false_iff_ne.2 (by omega)
  have hR0' : ¬ (R : Int) = 0 := by omega
  have HRI := Aside0.mk hRi
  have HHI := Aside0.mk hHi
  clear hRi hHi
  go_enter Try.func3, Try.ntmps3
  go_upto_region 2 with (fail)
  rw [← HRI.out]
  go_upto_region 3 with (fail)
  rw [← HHI.out]
  clear HRI HHI hR0 hR0'
  have HN := Aside0.mk (new_calls (R : Int) hR1 hR2)
  go_wp2_with fail
  refine (HN.out _).mono ?_
  rintro e w1 ⟨g, b, rfl, hg, hb, hn, hB⟩
  have HG := Aside0.mk (And.intro hg hb)
  have HN1 := Aside0.mk hn
  have HB1 := Aside0.mk hB
  clear hg hb hn hB HN
  go_wp2_with fail
  refine (HA.out _).mono ?_
  rintro e w2 ⟨rfl, hb⟩
  have HN2 := Aside0.mk (HN1.out.later hb)
  have HB2 := Aside0.mk (below_step HB1.out hb)
  clear hb HN1 HB1
  go_wp2_with fail
  go_loopw [6] (fun v6 wr => ∃ k : Nat, k ≤ R ∧ v6 = .int .i64 k ∧ Aside0 (NetAt wr g b R k (grams k)) ∧ Aside0 (Below w.heap.size w wr)) (fun v6 _ => R - (intOf v6).toNat)
  case atStart => exact ⟨0, by omega, rfl, HN2, HB2⟩
  case round =>
    obtain ⟨k, hk, rfl, HNk, HBk⟩ := hrel
    by_cases hlt : k < R
    · have hkR : (k : Int) < (R : Int) := by omega
      have HGR := Aside0.mk (gramS_calls (k : Int) (by omega) (by omega))
      have HSN := Aside0.mk (fun w' (h : NetAt w' g b R k (grams k)) => send_room h (grams_ok k (by omega)) (gramS k) (gramS_send k) (by rw [grams_len]; omega))
      have HGS := Aside0.mk (grams_succ k)
      have hw : wrap64 ((k : Int) + 1) = (k : Int) + 1 := IntWalk.wrap64_in _ (by omega)
      go_wp2_with fail
      refine (HGR.out _).mono ?_
      rintro e w3 ⟨rfl, hb⟩
      have HB3 := Aside0.mk (below_step HBk.out hb)
      have HS3 := Aside0.mk (HSN.out w3 (HNk.out.later hb))
      rw [show gV (gramS k) = .agg #[.int .i64 (gramS k).f0, .int .i64 (gramS k).f1, .string (gramS k).f2] from rfl] at HS3
      clear hb HGR HSN
      go_wp2_with fail
      refine HS3.out.mono ?_
      rintro e w4 ⟨rfl, hn, hr⟩
      have HN4 := Aside0.mk hn
      have HB4 := Aside0.mk (hr.below HB3.out HG.out.1 HG.out.2)
      clear hn hr HS3
      go_wp2_with fail
      go_roundw
      case rel => exact ⟨k + 1, by omega, by go_num, ⟨by rw [HGS.out]; exact HN4.out⟩, HB4⟩
      case measure => simp [intOf]; omega
    · obtain rfl : k = R := by omega
      clear hlt hk HN2 HB2
      have hRR : ¬ (k : Int) < (k : Int) := by omega
      have HG0 := Aside0.mk (gramS_calls 0 (by omega) (by omega))
      have HGH := Aside0.mk (gramS_calls (H : Int) (by omega) (by omega))
      have HLEN := Aside0.mk (grams_len k)
      have HOK := Aside0.mk (grams_ok k (by omega))
      have H0M : Aside0 ((((1 : Int), gramS 0) ∈ grams k)) := ⟨by simpa using grams_mem k 0 (by omega)⟩
      have HHM : Aside0 ((((H : Int) + 1, gramS (H : Int)) ∈ grams k)) := ⟨grams_mem k H (by omega)⟩
      have HNTH : Aside0 (nthV (grams k) (H : Int) = (H : Int) + 1) := ⟨grams_nth k H (by omega)⟩
      have HCL := Aside0.mk (grams_cut_len k H (by omega))
      have HHG : Aside0 (kGood ((H : Int) + 1)) := ⟨kgood (by omega) (by omega)⟩
      have HCO := Aside0.mk (HOK.out.cut ((H : Int) + 1))
      obtain ⟨M1, hM1⟩ : ∃ M1, M1 = cut (grams k) ((H : Int) + 1) := ⟨_, rfl⟩
      rw [← hM1] at HCL HCO
      have HM1 := Aside0.mk hM1
      clear hM1
      -- one more is not taken
      go_wp2_with fail
      refine (HG0.out _).mono ?_
      rintro e w3 ⟨rfl, hb⟩
      have HB3 := Aside0.mk (below_step HBk.out hb)
      have HS3 := Aside0.mk (send_full (HNk.out.later hb) (gramS 0) (gramS_send 0) (by rw [HLEN.out]; exact Int.le_refl _))
      rw [show gV (gramS 0) = .agg #[.int .i64 (gramS 0).f0, .int .i64 (gramS 0).f1, .string (gramS 0).f2] from rfl] at HS3
      clear hb
      go_wp2_with fail
      refine HS3.out.mono ?_
      rintro e w4 ⟨rfl, hn, hr⟩
      have HB4 := Aside0.mk (hr.below HB3.out HG.out.1 HG.out.2)
      have HT4 := Aside0.mk (twice_full hn 1 (kgood (by omega) (by omega)) (gramS 0) H0M.out (by rw [HLEN.out]; exact Int.le_refl _))
      clear hn hr HS3
      go_wp2_with fail
      refine HT4.out.mono ?_
      rintro e w5 ⟨rfl, hn, hr⟩
      have HB5 := Aside0.mk (hr.below HB4.out HG.out.1 HG.out.2)
      have HN5 := Aside0.mk hn
      have HNT := Aside0.mk (nth_calls g b k k (grams k) (H : Int) w5 hn (by rw [HLEN.out]; omega) HOK.out.up)
      rw [HNTH.out] at HNT
      clear hn hr HT4
      -- one comes
      go_wp2_with fail
      refine HNT.out.mono ?_
      rintro e w6 ⟨rfl, hb⟩
      have HB6 := Aside0.mk (below_step HB5.out hb)
      have HTK := Aside0.mk (take_some g b k k (grams k) ((H : Int) + 1) HHG.out (gramS (H : Int)) w6 (HN5.out.later hb) HHM.out)
      rw [show gV (gramS (H : Int)) = .agg #[.int .i64 (gramS (H : Int)).f0, .int .i64 (gramS (H : Int)).f1, .string (gramS (H : Int)).f2] from rfl, ← HM1.out] at HTK
      clear hb HNT
      go_wp2_with fail
      refine HTK.out.mono ?_
      rintro e w7 ⟨rfl, hn, hr⟩
      have HB7 := Aside0.mk (hr.below HB6.out HG.out.1 HG.out.2)
      obtain ⟨W8, hW8⟩ : ∃ W8, W8 = w7.alloc (.cells #[.int .i64 (gramS (H : Int)).f0, .int .i64 (gramS (H : Int)).f1, .string (gramS (H : Int)).f2] 29) := ⟨_, rfl⟩
      obtain ⟨g8, hg8⟩ : ∃ g8, g8 = w7.heap.size := ⟨_, rfl⟩
      have HX8 := Aside0.mk (show W8.heap[g8]? = some (.cells #[.int .i64 (gramS (H : Int)).f0, .int .i64 (gramS (H : Int)).f1, .string (gramS (H : Int)).f2] 29 (0, 0)) by rw [hW8, hg8]; exact heap_alloc_new _ _)
      have hb8 : Below w7.heap.size w7 W8 := by rw [hW8]; exact below_alloc (Below.refl _ w7) _
      have HB8 := Aside0.mk (below_step HB7.out hb8)
      have HN8 := Aside0.mk (hn.later hb8)
      have HNE : Aside0 (g8 ≠ g ∧ g8 ≠ b) := ⟨by have := hn.lt; omega⟩
      have HNT := Aside0.mk (nth_calls g b k k M1 0 W8 HN8.out (by have := HCL.out; omega) HCO.out.up)
      clear hn hr hb8 HTK
      go_upto_region 15 with (fail)
      rw [← hg8, ← hW8]
      clear hg8 hW8
      go_wp2_with fail
      refine HNT.out.mono ?_
      rintro e w9 ⟨rfl, hb⟩
      have HB9 := Aside0.mk (below_step HB8.out hb)
      have HN9 := Aside0.mk (HN8.out.later hb)
      have HX9 := Aside0.mk ((hb.block g8 (Array.getElem?_eq_some_iff.1 HX8.out).1).trans HX8.out)
      clear hb HNT
      by_cases h1 : k = 1
      · have hl0 : M1.length = 0 := by have := HCL.out; omega
        have HM0 : Aside0 (M1 = []) := ⟨List.eq_nil_of_length_eq_zero hl0⟩
        have hz : nthV M1 0 = 0 := by unfold nthV; rw [if_pos (.inl hl0)]
        rw [hz]
        have HTW := Aside0.mk (twice_not HN9.out 0 (kgood (by omega) (by omega)) (by rw [HM0.out]; intro p hp; cases hp))
        have hk1b : ((k : Int) == 1) = true := by rw [h1]; rfl
        clear hz hl0
        go_wp2_with fail
        refine HTW.out.mono ?_
        rintro e wa ⟨rfl, hn, hr⟩
        have HBa := Aside0.mk (hr.below HB9.out HG.out.1 HG.out.2)
        have HNa := Aside0.mk hn
        have HXa := Aside0.mk ((hr.block g8 (Array.getElem?_eq_some_iff.1 HX9.out).1 HNE.out.1 HNE.out.2).trans HX9.out)
        clear hn hr HTW
        go_wp2_with fail
        refine (HG0.out _).mono ?_
        rintro e wb ⟨rfl, hb⟩
        have HBb := Aside0.mk (below_step HBa.out hb)
        have HXb := Aside0.mk ((hb.block g8 (Array.getElem?_eq_some_iff.1 HXa.out).1).trans HXa.out)
        have HSb := Aside0.mk (send_room (HNa.out.later hb) HCO.out (gramS 0) (gramS_send 0) (by have := HCL.out; omega))
        rw [show gV (gramS 0) = .agg #[.int .i64 (gramS 0).f0, .int .i64 (gramS 0).f1, .string (gramS 0).f2] from rfl] at HSb
        clear hb
        go_wp2_with fail
        refine HSb.out.mono ?_
        rintro e wc ⟨rfl, hn, hr⟩
        have HBc := Aside0.mk (hr.below HBb.out HG.out.1 HG.out.2)
        have HNc := Aside0.mk hn
        have HNc' : Aside0 (∀ w', Below wc.heap.size wc w' → NetAt w' g b k ((k : Int) + 1) (M1 ++ [((k : Int) + 1, gramS 0)])) := ⟨fun w' h => HNc.out.later h⟩
        have HLc := Aside0.mk (fun w' (h : Below wc.heap.size wc w') => len_calls g b k _ _ w' (HNc'.out w' h))
        have HLL : Aside0 (((M1 ++ [((k : Int) + 1, gramS 0)]).length : Int) = (k : Int)) := ⟨by rw [List.length_append]; have := HCL.out; simp; omega⟩
        rw [HLL.out] at HLc
        obtain ⟨z0, z1, z2, -⟩ := cell3n ((hr.block g8 (Array.getElem?_eq_some_iff.1 HXb.out).1 HNE.out.1 HNE.out.2).trans HXb.out)
        clear hn hr HSb
        have hq := eqGG (gramS (H : Int))
        rw [show (k : Int) = 1 by omega] at HLc
        rw [show (k : Int) + 1 = 2 by omega]
        clear h1 hk1b hRR hR1 hR2 hH1 hH2
        have hw : IntKind.i64.wrap ((1 : Int) + 1) = 2 := by decide
        have hw2 : IntKind.i64.wrap (2 : Int) = 2 := by decide
        go_wp2_with fail
        go_region_held3 (fun w' : World => w'.cell? ⟨g8, 0, none⟩ = some (.int .i64 (gramS (H : Int)).f0) ∧ w'.cell? ⟨g8, 1, none⟩ = some (.int .i64 (gramS (H : Int)).f1) ∧ w'.cell? ⟨g8, 2, none⟩ = some (.string (gramS (H : Int)).f2)) (first | exact ⟨‹_›, ‹_›, ‹_›⟩ | go_keep) (first | (go_at_call 10; refine (HGH.out _).mono ?_; rintro e wd ⟨rfl, hbd⟩; have HBd := Aside0.mk (below_step (below_drew1 (Below.refl wc.heap.size wc)) hbd); have a2 := pw_cell_below HBd.out z0; have a3 := pw_cell_below HBd.out z1; have a4 := pw_cell_below HBd.out z2; clear hbd) | (go_at_call 14; refine (HLc.out _ HBd.out).mono ?_; rintro e we ⟨rfl, rfl⟩))
        go_wp2_with fail
        go_ret
        exact ⟨rfl, below_step HBc.out HBd.out⟩
      · have HFM := Aside0.mk (first_mem (M := M1) (by have := HCL.out; omega))
        obtain ⟨y, hy⟩ := HFM.out
        have hk1b : ((k : Int) == 1) = false := beq_eq_false_iff_ne.2 (by omega)
        have HTW := Aside0.mk (twice_room HN9.out HCO.out (nthV M1 0) (by
          have := HCO.out.le _ hy
          have := HCO.out.hi
          exact kgood (by omega) (by omega)) y hy (by have := HCL.out; omega))
        clear hy
        go_wp2_with fail
        refine HTW.out.mono ?_
        rintro e wc ⟨rfl, hn, hr⟩
        have HBc := Aside0.mk (hr.below HB9.out HG.out.1 HG.out.2)
        have HNc := Aside0.mk hn
        have HNc' : Aside0 (∀ w', Below wc.heap.size wc w' → NetAt w' g b k ((k : Int) + 1) (M1 ++ [((k : Int) + 1, y)])) := ⟨fun w' h => HNc.out.later h⟩
        have HLc := Aside0.mk (fun w' (h : Below wc.heap.size wc w') => len_calls g b k _ _ w' (HNc'.out w' h))
        have HLL : Aside0 (((M1 ++ [((k : Int) + 1, y)]).length : Int) = (k : Int)) := ⟨by rw [List.length_append]; have := HCL.out; simp; omega⟩
        rw [HLL.out] at HLc
        obtain ⟨z0, z1, z2, -⟩ := cell3n ((hr.block g8 (Array.getElem?_eq_some_iff.1 HX9.out).1 HNE.out.1 HNE.out.2).trans HX9.out)
        clear hn hr HTW
        have hq := eqGG (gramS (H : Int))
        have hw : IntKind.i64.wrap ((k : Int) + 1) = (k : Int) + 1 := by rw [IntWalk.i64_left]; exact IntWalk.wrap64_in _ (by omega)
        have hkk : ((k : Int) + 1 == (k : Int) + 1) = true := by simp
        have hkl : ((k : Int) == (k : Int)) = true := by simp
        clear h1
        go_wp2_with fail
        go_region_held3 (fun w' : World => w'.cell? ⟨g8, 0, none⟩ = some (.int .i64 (gramS (H : Int)).f0) ∧ w'.cell? ⟨g8, 1, none⟩ = some (.int .i64 (gramS (H : Int)).f1) ∧ w'.cell? ⟨g8, 2, none⟩ = some (.string (gramS (H : Int)).f2)) (first | exact ⟨‹_›, ‹_›, ‹_›⟩ | go_keep) (first | (go_at_call 10; refine (HGH.out _).mono ?_; rintro e wd ⟨rfl, hbd⟩; have HBd := Aside0.mk (below_step (below_drew1 (Below.refl wc.heap.size wc)) hbd); have a2 := pw_cell_below HBd.out z0; have a3 := pw_cell_below HBd.out z1; have a4 := pw_cell_below HBd.out z2; clear hbd) | (go_at_call 14; refine (HLc.out _ HBd.out).mono ?_; rintro e we ⟨rfl, rfl⟩))
        go_wp2_with fail
        go_ret
        exact ⟨rfl, below_step HBc.out HBd.out⟩
end Go.Proofs.Ytomhhbjebgghnaa.P
