/- What the claim on this statement wants of the text YtgcgnnblgimegaaEWalkTrue. Not trusted: Lean checks it. -/
import Derived.Test.YtgcgnnblgimegaaK1ETrue
import Derived.Deep.QuietTactic
import Derived.BigQuiet
namespace Go.Proofs.Ytgcgnnblgimegaa.P
open Go.RowKit Go.Proofs.YtgcgnnblgimegaaW.PrintWords Go.Proofs.YtgcgnnblgimegaaW.PrintLast Go.Proofs.YtgcgnnblgimegaaW.PrintMore
open Go.Proofs.Ytgcgnnblgimegaa.Red
set_option linter.unusedVariables false
set_option linter.unusedSimpArgs false
/-- An equation made here: its row came in. -/
structure Eq4 where
  A : Option Addr
  c : Nat
  l : List Int
  b : ByteArray
def eqC (t : Eq4) : List Value := [.slice t.A t.l.length t.c, .string t.b]
def kEq : Kd Eq4 := flat eqC 2 (fun _ => rfl) (fun t u hu => by
  simp [eqC] at hu
  rcases hu with rfl | rfl <;> rfl)
def Eq4.s (t : Eq4) : S41 := ⟨t.l, t.b⟩
def zEq : Eq4 := ⟨none, 0, [], ByteArray.empty⟩
theorem eq_rows {w W : World} {A : Option Addr} {n : Nat} {ts : List Eq4} (h : kEq.C W A n ts) (hb : Below w.heap.size w W) (ht : ∀ t ∈ ts, t.l.length ≤ t.c ∧ Kd.C (Kd.int .i64) w t.A t.l.length t.l) : k41.C W A n (ts.map Eq4.s) := by
  obtain ⟨h1, h2, h3⟩ := h
  refine ⟨by rw [List.length_map]; exact h1, h2, fun hn => ?_⟩
  obtain ⟨ad, e, hc⟩ := h3 hn
  refine ⟨ad, e, fun j p hj => ?_⟩
  rw [List.getElem?_map] at hj
  obtain ⟨t, htj, rfl⟩ := Option.map_eq_some_iff.1 hj
  obtain ⟨c, hcl, hK, hcc⟩ := hc j t htj
  have hm := ht t (List.mem_of_getElem? htj)
  obtain rfl : c = eqC t := hK
  exact ⟨eqC t, hcl, k41_mk W t.s hm.1 (Kd.C_below hm.2 hb), hcc⟩
theorem at_eq {w : World} {A : Option Addr} {n : Nat} {xs : List Eq4} (h : kEq.C w A n xs) (i : Nat) (h1 : i < n) :
    ∃ ad, A = some ad ∧ w.cell? (ad.add (i * 2)) = some (.slice (xs.getD i zEq).A (xs.getD i zEq).l.length (xs.getD i zEq).c) ∧ w.cell? ⟨(ad.add (i * 2)).block, (ad.add (i * 2)).off + 1, none⟩ = some (.string (xs.getD i zEq).b) := by
  obtain ⟨ad, c, e, _, hK, hc0⟩ := Kd.C_get h zEq (i : Int) (by omega) (by omega)
  rw [Int.toNat_natCast] at hK hc0
  have hc : ∀ j u, c[j]? = some u → w.cell? (ad.add (i * 2 + j)) = some u := hc0
  obtain rfl : c = eqC (xs.getD i zEq) := hK
  exact ⟨ad, e, hc 0 _ rfl, by rw [← add_field _ _ 1 (by omega)]; exact hc 1 _ rfl⟩
theorem at_eq0 {w : World} {g n : Nat} {xs : List Eq4} (h : kEq.C w (some ⟨g, 0, none⟩) n xs) (k : Nat) (h1 : k < n) (t : Eq4) (ht : t = xs.getD k zEq) : w.cell? ⟨g, k * 2 + 1, none⟩ = some (.string t.b) := by
  obtain ⟨ad, e, c0, c1⟩ := at_eq h k h1
  cases e
  rw [← ht] at c1
  rw [add_at, Nat.zero_add] at c1
  exact c1
theorem set_rows {ts : List Eq4} {q : Nat} {t : Eq4} (hq : q < ts.length) (ht : t = ts.getD q zEq) (b : ByteArray) : ((ts.set q ⟨t.A, t.c, t.l, b⟩).map Eq4.s).map (fun x : S41 => x.f0) = (ts.map Eq4.s).map (fun x : S41 => x.f0) := by
  have hg : ts[q] = t := by rw [ht, List.getD_eq_getElem?_getD, List.getElem?_eq_getElem hq]; rfl
  rw [List.map_map, List.map_map, List.map_set]
  have : ((fun x : S41 => x.f0) ∘ Eq4.s) ⟨t.A, t.c, t.l, b⟩ = (ts.map ((fun x : S41 => x.f0) ∘ Eq4.s))[q]'(by rw [List.length_map]; exact hq) := by rw [List.getElem_map, hg]; rfl
  rw [this, List.set_getElem_self]
theorem eq_froz {w : World} {base n c g : Nat} {ok : Nat → Prop} {xs : List Eq4} (h : kEq.R 41 w base ok (.slice (some ⟨g, 0, none⟩) n c) xs) (j : Nat) : w.frozen? ⟨g, j, none⟩ = false := by
  obtain ⟨inner, ho⟩ := Kd.R_own h
  rcases ho.2 with ⟨hv, _⟩ | ⟨g', cap', cur, hv, hb, hh, _⟩
  · cases hv
  · cases hv
    exact frozen_of_row w g j _ _ hh
theorem eq_put {w : World} {base n c g : Nat} {ok : Nat → Prop} {xs : List Eq4} (h : kEq.R 41 w base ok (.slice (some ⟨g, 0, none⟩) n c) xs) (k : Nat) (h1 : k < n) (t : Eq4) (ht : t = xs.getD k zEq) (b : ByteArray) :
    kEq.R 41 (w.setCell ⟨g, k * 2 + 1, none⟩ (.string b)) base ok (.slice (some ⟨g, 0, none⟩) n c) (xs.set k ⟨t.A, t.c, t.l, b⟩) ∧ w.grownBy (w.setCell ⟨g, k * 2 + 1, none⟩ (.string b)) (some g) := by
  obtain ⟨hn, hc, hC⟩ := Kd.R_reads' h
  obtain ⟨ad, e, c0, c1⟩ := at_eq hC k (by omega)
  cases e
  rw [← ht] at c0 c1
  rw [add_at, Nat.zero_add] at c0 c1
  have := Kd.R_seg (okp := fun _ => False) h (k : Int) (by omega) (by omega) (c := eqC t) (seg := [.string b]) (j := 1) (x' := (⟨t.A, t.c, t.l, b⟩ : Eq4)) rfl (fun j u hj => by
    rw [Int.toNat_natCast]
    match j, hj with
    | 0, hj => cases hj; exact c0
    | 1, hj => cases hj; exact c1
    | j + 2, hj => simp [eqC] at hj) (by exact Nat.le_refl 2) (by rfl) (fun _ hk => hk.elim)
  rw [Int.toNat_natCast] at this
  exact this
theorem info41 : (Try.prog.info? 41).map (fun i => (i.zero, i.size, i.bytes)) = some (some (.agg #[.slice none 0 0, .string ⟨#[]⟩]), 2, 40) := by kernel_rfl
theorem place (x : Int) (m : Nat) (h : ¬ m = 0) (hm : m ≤ 400) : ∃ q : Nat, (wrap64 (x.tmod (m : Int) + (m : Int))).tmod (m : Int) = (q : Int) ∧ q < m := by
  have h0 : 0 < (m : Int) := by omega
  have h1 := Int.emod_nonneg x (show (m : Int) ≠ 0 by omega)
  have h2 := Int.emod_lt_of_pos x h0
  have h3 : 0 ≤ x.tmod (m : Int) + (m : Int) ∧ x.tmod (m : Int) + (m : Int) < 2 * (m : Int) := by
    rw [Int.tmod_eq_emod]
    split <;> simp <;> omega
  rw [w64 _ (by omega) (by omega), Int.tmod_eq_emod_of_nonneg h3.1]
  have h4 := Int.emod_nonneg (x.tmod (m : Int) + (m : Int)) (show (m : Int) ≠ 0 by omega)
  have h5 := Int.emod_lt_of_pos (x.tmod (m : Int) + (m : Int)) h0
  exact ⟨((x.tmod (m : Int) + (m : Int)) % (m : Int)).toNat, by omega, by omega⟩
set_option maxHeartbeats 12000000 in
set_option maxRecDepth 100000 in
theorem gaussTrue_calls (A0 : Option Addr) (c0 : Nat) (bs : List ByteArray) (A1 : Option Addr) (c1 : Nat) (rows : List (List Int)) (which : Int) (w : World)
    (hr0 : Kd.C Kd.string w A0 bs.length bs) (hc0 : bs.length ≤ c0) (hr1 : Kd.C (Kd.slice 3 (Kd.int .i64)) w A1 rows.length rows) (hc1 : rows.length ≤ c1) (hm0 : bs.length ≤ 9223372036854775807) (hm1 : rows.length ≤ 9223372036854775807) :
    Calls Try.prog 4 #[.slice A0 bs.length c0, .slice A1 rows.length c1, .int .i64 which] w fun e w' => e = .returned (.bool true) ∧ Below w.heap.size w w' := by
  have HAW := Aside0.mk (fun W => mosaiclaw12_awake.calls 200 true W awake_true rfl)
  obtain ⟨k1, hk1⟩ := (few_ev bs.length rows hm1).ex
  have HFEW := Aside0.mk (mosaiclaw12_Few.calls k1 bs.length A1 c1 rows (fewB bs.length rows) w hr1 hc1 hk1)
  have HMAY := Aside0.mk (fun (W : World) (hb : Below w.heap.size w W) => gauss_May.calls bs.length A1 c1 rows (mayB bs.length rows) W (Kd.C_below hr1 hb) hc1 rfl)
  obtain ⟨k2, hk2⟩ := (sized_ev bs hm0).ex
  have HSI := Aside0.mk (fun (W : World) (hb : Below w.heap.size w W) => mosaicref09_Sized.calls k2 A0 c0 bs (sizedB bs) W (Kd.C_below hr0 hb) hc0 hk2)
  have HR0 := Aside0.mk hr0
  have HR1 := Aside0.mk hr1
  have HC0 := Aside0.mk hc0
  have HC1 := Aside0.mk hc1
  clear hr0 hr1 hc0 hc1 hk1 hk2
  cases hf : fewB bs.length rows with
  | false =>
    rw [hf] at HFEW
    go_enter Try.func4, Try.ntmps4
    go_wp2_with fail
    refine HFEW.out.mono ?_
    rintro e w1 ⟨rfl, hd1⟩
    have HB1 : Aside0 (Below w.heap.size w w1) := ⟨hd1.below⟩
    clear hd1 HFEW
    go_wp2_with fail
    refine (HAW.out _).mono ?_
    rintro e w2 ⟨rfl, hb2⟩
    have HB2 := Aside0.mk (below_step HB1.out hb2)
    clear hb2 HAW
    go_wp2_with fail
    go_ret
    exact ⟨rfl, HB2.out⟩
  | true =>
    rw [hf] at HFEW
    cases hm : mayB bs.length rows with
    | false =>
      rw [hm] at HMAY
      go_enter Try.func4, Try.ntmps4
      go_wp2_with fail
      refine HFEW.out.mono ?_
      rintro e w1 ⟨rfl, hd1⟩
      have HB1 : Aside0 (Below w.heap.size w w1) := ⟨hd1.below⟩
      clear hd1 HFEW
      go_wp2_with fail
      refine (HMAY.out _ HB1.out).mono ?_
      rintro e w2 ⟨rfl, hb2⟩
      have HB2 := Aside0.mk (below_step HB1.out hb2)
      clear hb2 HMAY
      go_wp2_with fail
      refine (HAW.out _).mono ?_
      rintro e w3 ⟨rfl, hb3⟩
      have HB3 := Aside0.mk (below_step HB2.out hb3)
      clear hb3 HAW
      go_wp2_with fail
      go_ret
      exact ⟨rfl, HB3.out⟩
    | true =>
      rw [hm] at HMAY
      cases hz : sizedB bs with
      | false =>
        rw [hz] at HSI
        go_enter Try.func4, Try.ntmps4
        go_wp2_with fail
        refine HFEW.out.mono ?_
        rintro e w1 ⟨rfl, hd1⟩
        have HB1 : Aside0 (Below w.heap.size w w1) := ⟨hd1.below⟩
        clear hd1 HFEW
        go_wp2_with fail
        refine (HMAY.out _ HB1.out).mono ?_
        rintro e w2 ⟨rfl, hb2⟩
        have HB2 := Aside0.mk (below_step HB1.out hb2)
        clear hb2 HMAY
        go_wp2_with fail
        refine (HSI.out _ HB2.out).mono ?_
        rintro e w2' ⟨rfl, hd2⟩
        have HB2' : Aside0 (Below w.heap.size w w2') := ⟨below_step HB2.out hd2.below⟩
        clear hd2 HSI
        go_wp2_with fail
        refine (HAW.out _).mono ?_
        rintro e w3 ⟨rfl, hb3⟩
        have HB3 := Aside0.mk (below_step HB2'.out hb3)
        clear hb3 HAW
        go_wp2_with fail
        go_ret
        exact ⟨rfl, HB3.out⟩
      | true =>
        rw [hz] at HSI
        obtain ⟨z1, z2, z3⟩ := sized_parts hz
        obtain ⟨p1, p2, p3, p4⟩ := may_parts hm
        have HZ := Aside0.mk hz
        have HM := Aside0.mk hm
        have HP4 := Aside0.mk p4
        obtain ⟨ad0, e, b0⟩ := Kd.at_string HR0.out (0 : Int) (by omega) (by omega)
        subst e
        have b0 : w.cell? ad0 = some (.string (rdOf ByteArray.empty bs 0)) := b0
        obtain ⟨b00, hb00⟩ : ∃ b, b = rdOf ByteArray.empty bs 0 := ⟨_, rfl⟩
        obtain ⟨sz, hsz⟩ : ∃ sz, sz = size0 bs := ⟨_, rfl⟩
        have hs0 : (b00.size : Int) = (sz : Int) := by rw [hb00, hsz]; rfl
        rw [← hb00] at b0
        rw [← hsz] at z1 z3
        have HZ3 := Aside0.mk z3
        have HSZ := Aside0.mk hsz
        clear hf hm hz p4 z3 hb00 hsz
        go_enter Try.func4, Try.ntmps4
        go_wp2_with fail
        refine HFEW.out.mono ?_
        rintro e w1 ⟨rfl, hd1⟩
        have HB1 : Aside0 (Below w.heap.size w w1) := ⟨hd1.below⟩
        clear hd1 HFEW
        go_wp2_with fail
        refine (HMAY.out _ HB1.out).mono ?_
        rintro e w2 ⟨rfl, hb2⟩
        have HB2 := Aside0.mk (below_step HB1.out hb2)
        clear hb2 HMAY HB1
        go_wp2_with fail
        refine (HSI.out _ HB2.out).mono ?_
        rintro e w3 ⟨rfl, hd2⟩
        have HB3 : Aside0 (Below w.heap.size w w3) := ⟨below_step HB2.out hd2.below⟩
        have b1 := pw_cell_below HB3.out b0
        clear hd2 HSI HB2
        go_wp2_with fail
        clear b0 b1
        have hm1' : (rows.length : Int) ≤ 400 := by omega
        go_loopw [9, 10] (fun v9 v10 wr => ∃ (k : Nat) (ts : List Eq4), k ≤ rows.length ∧ v10 = .int .i64 k ∧ Aside0 (ts.map Eq4.s = (rows.take k).map fun r => (⟨r, sumB bs r⟩ : S41)) ∧ Aside0 (kEq.R 41 wr w.heap.size (fun _ => True) v9 ts) ∧
          Aside0 (∀ t ∈ ts, t.l.length ≤ t.c ∧ Kd.C (Kd.int .i64) w t.A t.l.length t.l) ∧ Aside0 (Below w.heap.size w wr)) (fun _ v10 _ => rows.length - (intOf v10).toNat)
        case atStart => exact ⟨0, [], by omega, rfl, ⟨rfl⟩, ⟨Kd.R_nil _ _ _ _ _⟩, ⟨fun _ h => by cases h⟩, HB3⟩
        case round =>
          obtain ⟨k, ts, hk, rfl, HTM, HO, HT, HB⟩ := hrel
          have HTL : Aside0 (ts.length = k) := ⟨by have := congrArg List.length HTM.out; rw [List.length_map, List.length_map, List.length_take] at this; omega⟩
          by_cases hlt : k < rows.length
          · obtain ⟨ad, A2, c2, e, d0, hc2, hC2⟩ := at_L1 HR1.out (k : Int) (by omega) (by omega)
            subst e
            rw [Int.toNat_natCast] at d0
            obtain ⟨r, hr⟩ : ∃ r, r = rd_L1 rows (k : Int) := ⟨_, rfl⟩
            rw [← hr] at d0 hc2 hC2
            have hrm : r ∈ rows := by rw [hr]; simp [rd_L1, hlt]
            have HTK : Aside0 ((rows.take (k + 1)).map (fun r => (⟨r, sumB bs r⟩ : S41)) = (rows.take k).map (fun r => (⟨r, sumB bs r⟩ : S41)) ++ [⟨r, sumB bs r⟩]) := ⟨by
              rw [List.take_succ_eq_append_getElem hlt, List.map_append, hr]
              simp [rd_L1, hlt]⟩
            have hrl : r.length ≤ 9223372036854775807 := hC2.2.1
            obtain ⟨k5, hk5⟩ := (sum_ev bs r HZ.out (HP4.out r hrm) hrl).ex
            rw [← HSZ.out] at hk5
            have HS := Aside0.mk (fun (W : World) (hb : Below w.heap.size w W) => mosaicref09_Sum.calls k5 (some ad0) c0 bs A2 c2 r (sz : Int) (sumB bs r) W (Kd.C_below HR0.out hb) HC0.out (Kd.C_below hC2 hb) hc2 hk5)
            obtain ⟨sb, hsb⟩ : ∃ sb, sb = sumB bs r := ⟨_, rfl⟩
            rw [← hsb] at HS HTK
            have HD := Aside0.mk (fun (W : World) (hb : Below w.heap.size w W) => pw_cell_below hb d0)
            have HTM1 : Aside0 ((ts ++ [(⟨A2, c2, r, sb⟩ : Eq4)]).map Eq4.s = (rows.take (k + 1)).map (fun r => (⟨r, sumB bs r⟩ : S41))) := ⟨by rw [HTK.out, List.map_append, HTM.out]; rfl⟩
            have HT1 : Aside0 (∀ t ∈ ts ++ [(⟨A2, c2, r, sb⟩ : Eq4)], t.l.length ≤ t.c ∧ Kd.C (Kd.int .i64) w t.A t.l.length t.l) := ⟨fun t ht => by
              rcases List.mem_append.1 ht with ht | ht
              · exact HT.out t ht
              · rw [List.mem_singleton.1 ht]; exact ⟨hc2, hC2⟩⟩
            have hlt' : (k : Int) < (rows.length : Int) := by omega
            have htl : ts.length = k := HTL.out
            clear hr hsb hk5 hrm hrl hc2 hC2
            go_wp2_with fail
            have d1' := HD.out _ (below_step HB.out (below_drew1 (Below.refl _ wr)))
            go_region_law (first
              | (refine Kd.R_append_step kEq (w0 := w) w.heap.size (by rfl) (.tmp 50) (.tmp 63) 22 41 (.agg #[.slice none 0 0, .string ⟨#[]⟩]) 40 rfl Try.underlying22 info41 rfl (by decide) (by omega) u9 ts (⟨A2, c2, r, sb⟩ : Eq4) [.slice A2 r.length c2, .string sb] (fun _ => True) (fun _ => False) (by simp [Act.eval, Act.put]) (by simp [Act.eval, Act.put]) rfl (fun _ hk => hk.elim) (fun _ _ => trivial) HO1.out HB1.out HB1.out.size (by omega) ?_; intro v7 w7 hr7 hb7 hg7 hat7; have H7 := Aside0.mk hr7; have H8 := Aside0.mk hb7; clear HO1 HB1 hr7 hb7 hg7 hat7)
              | (go_simp; go_at_call 17; refine (HS.out _ (below_step HB.out (below_drew1 (Below.refl _ wr)))).mono ?_; rintro e w3 ⟨rfl, hb3⟩; have hb4 := below_step (below_drew1 (Below.refl _ wr)) hb3; have HB1 := Aside0.mk (below_step HB.out hb4); have HO1 := Aside0.mk (Kd.R_below HO.out hb4); have d1'' := HD.out _ HB1.out; clear hb3 hb4))
            all_goals
              clear HO HS HT HTM HTK HD d1' HB
              go_wp2_with fail
              go_roundw
              case rel => exact ⟨k + 1, _, by omega, by go_num, HTM1, H7, HT1, H8⟩
              case measure => simp [intOf]; omega
          · obtain rfl : k = rows.length := by omega
            obtain ⟨A9, c9, e9, hc9, hC9⟩ := Kd.R_reads HO.out
            subst e9
            obtain ⟨L, hL⟩ : ∃ L, L = rows.map (fun r => (⟨r, sumB bs r⟩ : S41)) := ⟨_, rfl⟩
            have hTL : ts.map Eq4.s = L := by rw [hL]; have := HTM.out; rwa [List.take_length] at this
            have hlen : ts.length = L.length := by rw [← hTL, List.length_map]
            have hlr : L.length = rows.length := by rw [hL, List.length_map]
            have hL0 : L.map (fun x : S41 => x.f0) = rows := by rw [hL, List.map_map]; exact List.map_id _
            obtain ⟨out, ho1, ho2, ho3⟩ := solve_true HZ.out HM.out
            rw [← hL, ← HSZ.out] at ho1
            have hCL := eq_rows hC9 HB.out HT.out
            rw [hTL, hlen] at hCL
            have HSV := Aside0.mk (gauss_Solve.calls (bs.length : Int) (sz : Int) A9 c9 L out 0 wr hCL (by omega) (by unfold gauss_Solve.f; rw [if_pos (by omega), ho1]))
            obtain ⟨k6, hk6⟩ := (fixed_ev bs.length rows HM.out).ex
            obtain ⟨F, hF⟩ : ∃ F, F = fixedL bs.length rows := ⟨_, rfl⟩
            rw [← hF] at hk6 ho3
            have HFX := Aside0.mk (fun (W : World) (hb : Below w.heap.size w W) => gauss_Fixed.calls k6 bs.length A1 c1 rows F 0 W (Kd.C_below HR1.out hb) HC1.out hk6)
            have HO3 := Aside0.mk ho3
            have HTLs := Aside0.mk hTL
            have HL0 := Aside0.mk hL0
            have HLR := Aside0.mk hlr
            have HF := Aside0.mk hF
            have HLZ : Aside0 (∀ x ∈ L, x.f1.size = sz) := ⟨fun x hx => by rw [hL] at hx; obtain ⟨r, hr, rfl⟩ := List.mem_map.1 hx; exact (true_row HZ.out (may_rows HM.out r hr)).1.trans HSZ.out.symm⟩
            rw [hlen] at HO ⊢
            clear hc9 hC9 hL hTL hlen hlr hL0 ho1 ho3 hCL hk6 hF HTM HTL hk hlt
            go_wp2_with fail
            refine HSV.out.mono ?_
            rintro e w4 ⟨v11, rfl, hr11, hb4⟩
            obtain ⟨A11, c11, e11⟩ := Kd.R_slice hr11
            rw [ho2] at e11
            subst e11
            have hlt9 : ∀ j, (Value.slice A9 L.length c9).ownBlock = some j → j < wr.heap.size := fun j hj => Kd.R_lt HO.out j hj
            have hC11 : Kd.R Kd.string 9 w4 w.heap.size (fun k => some k ≠ (Value.slice A9 L.length c9).ownBlock) (.slice A11 bs.length c11) out := Kd.R_lower (Kd.R_mono (Kd.R_bound hr11) (fun k hk e => by have := hlt9 k e.symm; have := hk.2.1; omega)) HB.out.size
            have HB4 := Aside0.mk (below_step HB.out hb4)
            have HO4 := Aside0.mk (Kd.R_below HO.out hb4)
            clear hr11 hb4 HSV HO HB
            go_wp2_with fail
            refine (HFX.out _ HB4.out).mono ?_
            rintro e w5 ⟨v13, rfl, hr13, hb5⟩
            obtain ⟨A13, c13, e13, hc13, hC13⟩ := Kd.R_reads hr13
            subst e13
            have HB5 := Aside0.mk (below_step HB4.out hb5)
            have HO5 := Aside0.mk (Kd.R_below HO4.out hb5)
            have HC11 := Aside0.mk (Kd.R_below hC11 hb5)
            have hFl : F.length ≤ 9223372036854775807 := hC13.2.1
            have HC13 := Aside0.mk hC13
            have HCC13 := Aside0.mk hc13
            clear hr13 hb5 HFX hC11 hC13 hc13 hlt9 HO4 HB4
            go_wp2_with fail
            have hbl : (bs.length : Int) ≤ 160 := by omega
            go_loopw [15] (fun v15 wr => ∃ k : Nat, k ≤ bs.length ∧ v15 = .int .i64 k ∧ Aside0 (Below w5.heap.size w5 wr)) (fun v15 _ => bs.length - (intOf v15).toNat)
            case atStart => exact ⟨0, by omega, rfl, ⟨Below.refl _ _⟩⟩
            case round =>
              obtain ⟨k, hk, rfl, HD⟩ := hrel
              by_cases hlt : k < bs.length
              · obtain ⟨ad1, e1, x1⟩ := Kd.at_string (Kd.C_below (Kd.R_reads' HC11.out).2.2 HD.out) (k : Int) (by omega) (by omega)
                obtain ⟨ad0', e0, x0⟩ := Kd.at_string (Kd.C_below HR0.out (below_step HB5.out HD.out)) (k : Int) (by omega) (by omega)
                subst e1
                cases e0
                rw [Int.toNat_natCast] at x0 x1
                obtain ⟨k7, hk7⟩ := (has_ev F (k : Int) hFl).ex
                have HH := Aside0.mk (fun (W : World) (hb : Below w5.heap.size w5 W) => mosaicref09_Has.calls k7 A13 c13 F (k : Int) (hasB F (k : Int)) W (Kd.C_below HC13.out hb) HCC13.out hk7)
                have ho3 := HO3.out k hlt
                have hlt' : (k : Int) < (bs.length : Int) := by omega
                clear hk7
                obtain ⟨xb, hxb⟩ : ∃ xb, xb = rdOf ByteArray.empty bs (k : Int) := ⟨_, rfl⟩
                obtain ⟨xo, hxo⟩ : ∃ xo, xo = rdOf ByteArray.empty out (k : Int) := ⟨_, rfl⟩
                rw [← hxb] at x0
                rw [← hxo] at x1
                cases hh : hasB F (k : Int) with
                | true =>
                  rw [hh] at HH
                  rw [hh, if_pos rfl] at ho3
                  have hxx : xo = xb := by rw [hxo, hxb]; exact ho3
                  rw [hxx] at x1
                  clear ho3 hh hxo hxb hxx
                  go_wp2_with fail
                  go_quiet ((go_at_call 19; exact Calls.quiet_of ((HH.out _ (pw_below_drewN HD.out _)).mono (fun e w' h => ⟨h.1, h.2.out⟩))))
                  go_wp2_with fail
                  have HD1 : Aside0 (Below w5.heap.size w5 (wr.drewN nq)) := ⟨pw_below_drewN HD.out _⟩
                  go_roundw
                  case rel => exact ⟨k + 1, by omega, by go_num, HD1⟩
                  case measure => simp [intOf]; omega
                | false =>
                  rw [hh] at HH
                  rw [hh, if_neg (by decide)] at ho3
                  have hxx : xo.toList.isEmpty = true := by
                    have : xo = ⟨#[]⟩ := by rw [hxo]; exact ho3
                    rw [this, Lib.toList_data]; rfl
                  clear ho3 hh hxo hxb
                  go_wp2_with fail
                  go_quiet ((go_at_call 19; exact Calls.quiet_of ((HH.out _ (pw_below_drewN HD.out _)).mono (fun e w' h => ⟨h.1, h.2.out⟩))))
                  go_wp2_with fail
                  have HD1 : Aside0 (Below w5.heap.size w5 (wr.drewN nq)) := ⟨pw_below_drewN HD.out _⟩
                  go_roundw
                  case rel => exact ⟨k + 1, by omega, by go_num, HD1⟩
                  case measure => simp [intOf]; omega
              · obtain rfl : k = bs.length := by omega
                have HB6 := Aside0.mk (below_step HB5.out HD.out)
                have HO6 := Aside0.mk (Kd.R_below HO5.out HD.out)
                have HC6 := Aside0.mk (Kd.R_below HC11.out HD.out)
                clear HO5 HC11 HC13 HCC13 HD hlt hk HB5
                by_cases hL0 : L.length = 0
                · have hL1 : (L.length : Int) = 0 := by omega
                  go_wp2_with fail
                  refine (HAW.out _).mono ?_
                  rintro e w7 ⟨rfl, hb7⟩
                  have HB7 := Aside0.mk (below_step HB6.out hb7)
                  clear hb7 HAW
                  go_wp2_with fail
                  go_ret
                  exact ⟨rfl, HB7.out⟩
                · have hL1 : ¬ (L.length : Int) = 0 := by omega
                  have hL2 : (L.length : Int) ≤ 400 := by have := HLR.out; omega
                  obtain ⟨q, hq, hql⟩ := place which L.length hL0 (by omega)
                  have htl : ts.length = L.length := by rw [← HTLs.out, List.length_map]
                  obtain ⟨ad9, e9, y0, y1⟩ := at_eq (Kd.R_reads' HO6.out).2.2 q (by omega)
                  subst e9
                  obtain ⟨g9, e9⟩ := Kd.R_head HO6.out
                  subst e9
                  obtain ⟨t, ht⟩ : ∃ t, t = ts.getD q zEq := ⟨_, rfl⟩
                  rw [← ht] at y0 y1
                  have y1 : wr.cell? ⟨g9, q * 2 + 1, none⟩ = some (.string t.b) := by rw [add_at, Nat.zero_add] at y1; exact y1
                  have htm : t ∈ ts := by rw [ht, List.getD_eq_getElem?_getD, List.getElem?_eq_getElem (by omega)]; exact List.getElem_mem _
                  have htz : t.b.size = sz := HLZ.out t.s (by rw [← HTLs.out]; exact List.mem_map_of_mem htm)
                  have hql' : (q : Int) < (L.length : Int) := by omega
                  have HZR := Aside0.mk (fun W => block_Zero.calls ((sz - 1 : Nat) : Int) _ W rfl)
                  obtain ⟨zb, hzb⟩ : ∃ zb, zb = (if 1 ≤ ((sz - 1 : Nat) : Int) ∧ ((sz - 1 : Nat) : Int) ≤ 64 then zeroB ((sz - 1 : Nat) : Int).toNat else ⟨#[]⟩) := ⟨_, rfl⟩
                  rw [← hzb] at HZR
                  have hzs : zb.size = sz - 1 := by
                    rw [hzb]
                    split
                    · rw [zeroB_size]; omega
                    · show 0 = sz - 1; omega
                  have HXR := Aside0.mk (fun (b : ByteArray) (hb : b.size = sz) (W : World) => block_Xor.calls t.b b (xorB t.b b) 0 W (by unfold block_Xor.f; rw [if_pos (by omega), if_pos (htz.trans hb.symm)]))
                  have HTM := Aside0.mk htm
                  have HTZ := Aside0.mk htz
                  have HTT := Aside0.mk ht
                  have HTLn := Aside0.mk htl
                  have HZS := Aside0.mk hzs
                  have hw1 : wrap64 ((sz : Int) - 1) = ((sz - 1 : Nat) : Int) := by rw [w64 _ (by omega) (by omega)]; omega
                  have hw2 : IntKind.i64.wrap ((sz : Int) - 1) = ((sz - 1 : Nat) : Int) := by rw [i64_w]; exact hw1
                  have hcat : ¬ 9223372036854775807 < 1 + zb.size := by omega
                  clear ht htm htz htl hzb hzs
                  go_wp2_with fail
                  go_region_law (first
                    | (go_simp; go_at_call 21; refine (HZR.out _).mono ?_; rintro e w7 ⟨rfl, hb7⟩; have hb8 := below_step (below_drew1 (Below.refl _ wr)) hb7; have HB7 := Aside0.mk (below_step HB6.out hb8); have HO7 := Aside0.mk (Kd.R_below HO6.out hb8); have HC7 := Aside0.mk (Kd.R_below HC6.out hb8); have y1' := pw_cell_below hb8 y1; clear hb7 hb8)
                    | (go_simp; go_at_call 20; refine (HXR.out _ (by simp only [ByteArray.size_append]; have := HZS.out; show 1 + zb.size = sz; omega) _).mono ?_; rintro e w8 ⟨rfl, hb9⟩; have HB8 := Aside0.mk (below_step HB7.out hb9); have HO8 := Aside0.mk (Kd.R_below HO7.out hb9); have HC8 := Aside0.mk (Kd.R_below HC7.out hb9); clear hb9 HB7 HO7 HC7))
                  all_goals
                    clear hw1 hw2 hcat hq HZR HC6 HO6 HB6
                    try clear y1'
                    clear y0 y1
                    have HTB : Aside0 ((xorB t.b ((⟨#[1]⟩ : ByteArray) ++ zb)).size = sz) := ⟨xorB_size HTZ.out (by simp only [ByteArray.size_append]; have := HZS.out; show 1 + zb.size = sz; omega)⟩
                    obtain ⟨tb, htb⟩ : ∃ tb, tb = xorB t.b ((⟨#[1]⟩ : ByteArray) ++ zb) := ⟨_, rfl⟩
                    rw [← htb] at HTB ⊢
                    clear htb
                    by_cases hs1 : (sz : Int) = 1
                    · have y1 := at_eq0 (Kd.R_reads' HO8.out).2.2 q (by have := HTLn.out; omega) t HTT.out
                      have HX1 := Aside0.mk (HXR.out ⟨#[1]⟩ (by show 1 = sz; omega))
                      have HTB2 : Aside0 ((xorB t.b (⟨#[1]⟩ : ByteArray)).size = sz) := ⟨xorB_size HTZ.out (by show 1 = sz; omega)⟩
                      obtain ⟨tb2, htb2⟩ : ∃ tb2, tb2 = xorB t.b (⟨#[1]⟩ : ByteArray) := ⟨_, rfl⟩
                      rw [← htb2] at HTB2 HX1
                      clear htb2
                      go_wp2_with fail
                      refine (HX1.out _).mono ?_
                      rintro e w9 ⟨rfl, hb9⟩
                      have HB9 := Aside0.mk (below_step HB8.out hb9)
                      have HO9 := Aside0.mk (Kd.R_below HO8.out hb9)
                      have HC9 := Aside0.mk (Kd.R_below HC8.out hb9)
                      clear hb9 HB8 HO8 HC8 y1 HX1
                      have HPUT := Aside0.mk (eq_put HO9.out q hql t HTT.out tb2)
                      have yz := at_eq0 (Kd.R_reads' HO9.out).2.2 q (by have := HTLn.out; omega) t HTT.out
                      have yf := eq_froz HO9.out (q * 2 + 1)
                      have HBP : Aside0 (Below w.heap.size w (w9.setCell ⟨g9, q * 2 + 1, none⟩ (.string tb2))) := ⟨HB9.out.grown HPUT.out.2 HB9.out.size (fun k hk => by cases hk; exact Kd.R_base HO9.out g9 rfl)⟩
                      have HCP := Aside0.mk (Kd.R_grown HC9.out HPUT.out.2 (fun k hk => hk))
                      have HTs : ∀ t' ∈ ts.set q ⟨t.A, t.c, t.l, tb2⟩, t'.l.length ≤ t'.c ∧ Kd.C (Kd.int .i64) w t'.A t'.l.length t'.l := fun t' ht' => by
                        rcases List.mem_or_eq_of_mem_set ht' with h | h
                        · exact HT.out t' h
                        · rw [h]; exact HT.out t HTM.out
                      have hCL := eq_rows (Kd.R_reads' HPUT.out.1).2.2 HBP.out HTs
                      obtain ⟨L2, hL2⟩ : ∃ L2, L2 = (ts.set q ⟨t.A, t.c, t.l, tb2⟩).map Eq4.s := ⟨_, rfl⟩
                      have hl2 : L2.length = L.length := by rw [hL2, List.length_map, List.length_set]; exact HTLn.out
                      have hf2 : L2.map (fun x : S41 => x.f0) = rows := by rw [hL2, set_rows (by have := HTLn.out; omega) HTT.out, HTLs.out, HL0.out]
                      have hz2 : ∀ x ∈ L2, x.f1.size = sz := fun x hx => by
                        rw [hL2] at hx
                        obtain ⟨t', ht', rfl⟩ := List.mem_map.1 hx
                        rcases List.mem_or_eq_of_mem_set ht' with h | h
                        · exact HLZ.out t'.s (by rw [← HTLs.out]; exact List.mem_map_of_mem h)
                        · rw [h]; exact HTB2.out
                      rw [← hL2, List.length_set, HTLn.out, ← hl2] at hCL
                      have hform := solve_form (n := bs.length) (sz := sz) (l := L2) (by rw [hf2]; exact HM.out) z1 hz2
                      rw [hf2, ← HF.out] at hform
                      have hle2 : L2.length ≤ 400 := by rw [hl2]; omega
                      have hlc : L2.length ≤ c9 := by rw [hl2]; exact (Kd.R_reads' HO9.out).2.1
                      have HL2 := Aside0.mk hl2
                      clear HTs hL2 hf2 hz2 yz
                      have yz := at_eq0 (Kd.R_reads' HO9.out).2.2 q (by have := HTLn.out; omega) t HTT.out
                      rcases hform with h9 | ⟨out2, h0, hlen2, hat2⟩
                      · have HSV := Aside0.mk (gauss_Solve.calls (bs.length : Int) (sz : Int) (some ⟨g9, 0, none⟩) c9 L2 [] 9 (w9.setCell ⟨g9, q * 2 + 1, none⟩ (.string tb2)) hCL hlc (by unfold gauss_Solve.f; rw [if_pos hle2, h9]))
                        rw [hl2, hs1] at HSV
                        clear hCL h9 hl2 hlc hle2
                        go_wp2_with fail
                        refine HSV.out.mono ?_
                        rintro e wA ⟨v19, rfl, hr19, hbA⟩
                        have HBA := Aside0.mk (below_step HBP.out hbA)
                        clear hr19 hbA HSV HPUT HBP HCP
                        go_wp2_with fail
                        refine (HAW.out _).mono ?_
                        rintro e wC ⟨rfl, hbC⟩
                        have HBC := Aside0.mk (below_step HBA.out hbC)
                        clear hbC
                        go_wp2_with fail
                        go_ret
                        exact ⟨rfl, HBC.out⟩
                      · have HSV := Aside0.mk (gauss_Solve.calls (bs.length : Int) (sz : Int) (some ⟨g9, 0, none⟩) c9 L2 out2 0 (w9.setCell ⟨g9, q * 2 + 1, none⟩ (.string tb2)) hCL hlc (by unfold gauss_Solve.f; rw [if_pos hle2, h0]))
                        rw [hl2, hs1] at HSV
                        have HAT := Aside0.mk hat2
                        clear hCL h0 hl2 hlc hle2 hat2
                        go_wp2_with fail
                        refine HSV.out.mono ?_
                        rintro e wA ⟨v19, rfl, hr19, hbA⟩
                        obtain ⟨A19, c19, e19⟩ := Kd.R_slice hr19
                        rw [hlen2] at e19
                        subst e19
                        have HR19 := Aside0.mk (Kd.R_reads' hr19).2.2
                        have HBA := Aside0.mk (below_step HBP.out hbA)
                        have HCA := Aside0.mk (Kd.R_reads' (Kd.R_below HCP.out hbA)).2.2
                        clear hr19 hbA HSV HPUT HBP HCP
                        go_wp2_with fail
                        go_loopw [21] (fun v21 wr => ∃ k : Nat, k ≤ bs.length ∧ v21 = .int .i64 k ∧ Aside0 (Below wA.heap.size wA wr)) (fun v21 _ => bs.length - (intOf v21).toNat)
                        case atStart => exact ⟨0, by omega, rfl, ⟨Below.refl _ _⟩⟩
                        case round =>
                          obtain ⟨k, hk, rfl, HD⟩ := hrel
                          by_cases hlt : k < bs.length
                          · obtain ⟨ad1, e1, x1⟩ := Kd.at_string (Kd.C_below HCA.out HD.out) (k : Int) (by omega) (by omega)
                            obtain ⟨ad2, e2, x2⟩ := Kd.at_string (Kd.C_below HR19.out HD.out) (k : Int) (by omega) (by omega)
                            subst e1
                            subst e2
                            rw [Int.toNat_natCast] at x1 x2
                            have ho3 := HO3.out k hlt
                            have ho4 := HAT.out k hlt
                            have hlt' : (k : Int) < (bs.length : Int) := by omega
                            obtain ⟨xo, hxo⟩ : ∃ xo, xo = rdOf ByteArray.empty out (k : Int) := ⟨_, rfl⟩
                            obtain ⟨xw, hxw⟩ : ∃ xw, xw = rdOf ByteArray.empty out2 (k : Int) := ⟨_, rfl⟩
                            rw [← hxo] at x1
                            rw [← hxw] at x2
                            have hxo' : xo = out.getD k ByteArray.empty := hxo
                            have hxw' : xw = out2.getD k ByteArray.empty := hxw
                            rw [← hxo'] at ho3
                            rw [← hxw'] at ho4
                            have h5 : xo.toList.isEmpty = xw.toList.isEmpty := by
                              rw [ho4, ho3]
                              cases hasB F (k : Int) with
                              | true =>
                                rw [if_pos rfl, List.getD_eq_getElem?_getD, List.getElem?_eq_getElem hlt, Lib.toList_data]
                                show (bs[k].data.toList.isEmpty) = false
                                cases hd : bs[k].data.toList with
                                | nil =>
                                  have h6 : bs[k].size = 0 := by
                                    show bs[k].data.size = 0
                                    rw [← Array.length_toList, hd]; rfl
                                  have := HZ3.out bs[k] (List.getElem_mem _)
                                  omega
                                | cons _ _ => rfl
                              | false => rw [if_neg (by decide), Lib.toList_data]; rfl
                            clear ho3 ho4 hxo hxw hxo' hxw'
                            obtain ⟨bb, hbb⟩ : ∃ bb, xw.toList.isEmpty = bb := ⟨_, rfl⟩
                            rw [hbb] at h5
                            cases bb <;> (
                              go_wp2_with fail
                              go_quiet (fail)
                              go_wp2_with fail
                              have HD1 : Aside0 (Below wA.heap.size wA (wr.drewN nq)) := ⟨pw_below_drewN HD.out _⟩
                              go_roundw
                              case rel => exact ⟨k + 1, by omega, by go_num, HD1⟩
                              case measure => simp [intOf]; omega)
                          · obtain rfl : k = bs.length := by omega
                            go_wp2_with fail
                            refine (HAW.out _).mono ?_
                            rintro e wC ⟨rfl, hbC⟩
                            have HBC := Aside0.mk (below_step (below_step HBA.out HD.out) hbC)
                            clear hbC
                            go_wp2_with fail
                            go_ret
                            exact ⟨rfl, HBC.out⟩
                    ·
                      have HPUT := Aside0.mk (eq_put HO8.out q hql t HTT.out tb)
                      have yz := at_eq0 (Kd.R_reads' HO8.out).2.2 q (by have := HTLn.out; omega) t HTT.out
                      have yf := eq_froz HO8.out (q * 2 + 1)
                      have HBP : Aside0 (Below w.heap.size w (w8.setCell ⟨g9, q * 2 + 1, none⟩ (.string tb))) := ⟨HB8.out.grown HPUT.out.2 HB8.out.size (fun k hk => by cases hk; exact Kd.R_base HO8.out g9 rfl)⟩
                      have HCP := Aside0.mk (Kd.R_grown HC8.out HPUT.out.2 (fun k hk => hk))
                      have HTs : ∀ t' ∈ ts.set q ⟨t.A, t.c, t.l, tb⟩, t'.l.length ≤ t'.c ∧ Kd.C (Kd.int .i64) w t'.A t'.l.length t'.l := fun t' ht' => by
                        rcases List.mem_or_eq_of_mem_set ht' with h | h
                        · exact HT.out t' h
                        · rw [h]; exact HT.out t HTM.out
                      have hCL := eq_rows (Kd.R_reads' HPUT.out.1).2.2 HBP.out HTs
                      obtain ⟨L2, hL2⟩ : ∃ L2, L2 = (ts.set q ⟨t.A, t.c, t.l, tb⟩).map Eq4.s := ⟨_, rfl⟩
                      have hl2 : L2.length = L.length := by rw [hL2, List.length_map, List.length_set]; exact HTLn.out
                      have hf2 : L2.map (fun x : S41 => x.f0) = rows := by rw [hL2, set_rows (by have := HTLn.out; omega) HTT.out, HTLs.out, HL0.out]
                      have hz2 : ∀ x ∈ L2, x.f1.size = sz := fun x hx => by
                        rw [hL2] at hx
                        obtain ⟨t', ht', rfl⟩ := List.mem_map.1 hx
                        rcases List.mem_or_eq_of_mem_set ht' with h | h
                        · exact HLZ.out t'.s (by rw [← HTLs.out]; exact List.mem_map_of_mem h)
                        · rw [h]; exact HTB.out
                      rw [← hL2, List.length_set, HTLn.out, ← hl2] at hCL
                      have hform := solve_form (n := bs.length) (sz := sz) (l := L2) (by rw [hf2]; exact HM.out) z1 hz2
                      rw [hf2, ← HF.out] at hform
                      have hle2 : L2.length ≤ 400 := by rw [hl2]; omega
                      have hlc : L2.length ≤ c9 := by rw [hl2]; exact (Kd.R_reads' HO8.out).2.1
                      have HL2 := Aside0.mk hl2
                      clear HTs hL2 hf2 hz2 yz
                      have yz := at_eq0 (Kd.R_reads' HO8.out).2.2 q (by have := HTLn.out; omega) t HTT.out
                      rcases hform with h9 | ⟨out2, h0, hlen2, hat2⟩
                      · have HSV := Aside0.mk (gauss_Solve.calls (bs.length : Int) (sz : Int) (some ⟨g9, 0, none⟩) c9 L2 [] 9 (w8.setCell ⟨g9, q * 2 + 1, none⟩ (.string tb)) hCL hlc (by unfold gauss_Solve.f; rw [if_pos hle2, h9]))
                        rw [hl2] at HSV
                        clear hCL h9 hl2 hlc hle2
                        go_wp2_with fail
                        refine HSV.out.mono ?_
                        rintro e wA ⟨v19, rfl, hr19, hbA⟩
                        have HBA := Aside0.mk (below_step HBP.out hbA)
                        clear hr19 hbA HSV HPUT HBP HCP
                        go_wp2_with fail
                        refine (HAW.out _).mono ?_
                        rintro e wC ⟨rfl, hbC⟩
                        have HBC := Aside0.mk (below_step HBA.out hbC)
                        clear hbC
                        go_wp2_with fail
                        go_ret
                        exact ⟨rfl, HBC.out⟩
                      · have HSV := Aside0.mk (gauss_Solve.calls (bs.length : Int) (sz : Int) (some ⟨g9, 0, none⟩) c9 L2 out2 0 (w8.setCell ⟨g9, q * 2 + 1, none⟩ (.string tb)) hCL hlc (by unfold gauss_Solve.f; rw [if_pos hle2, h0]))
                        rw [hl2] at HSV
                        have HAT := Aside0.mk hat2
                        clear hCL h0 hl2 hlc hle2 hat2
                        go_wp2_with fail
                        refine HSV.out.mono ?_
                        rintro e wA ⟨v19, rfl, hr19, hbA⟩
                        obtain ⟨A19, c19, e19⟩ := Kd.R_slice hr19
                        rw [hlen2] at e19
                        subst e19
                        have HR19 := Aside0.mk (Kd.R_reads' hr19).2.2
                        have HBA := Aside0.mk (below_step HBP.out hbA)
                        have HCA := Aside0.mk (Kd.R_reads' (Kd.R_below HCP.out hbA)).2.2
                        clear hr19 hbA HSV HPUT HBP HCP
                        go_wp2_with fail
                        go_loopw [21] (fun v21 wr => ∃ k : Nat, k ≤ bs.length ∧ v21 = .int .i64 k ∧ Aside0 (Below wA.heap.size wA wr)) (fun v21 _ => bs.length - (intOf v21).toNat)
                        case atStart => exact ⟨0, by omega, rfl, ⟨Below.refl _ _⟩⟩
                        case round =>
                          obtain ⟨k, hk, rfl, HD⟩ := hrel
                          by_cases hlt : k < bs.length
                          · obtain ⟨ad1, e1, x1⟩ := Kd.at_string (Kd.C_below HCA.out HD.out) (k : Int) (by omega) (by omega)
                            obtain ⟨ad2, e2, x2⟩ := Kd.at_string (Kd.C_below HR19.out HD.out) (k : Int) (by omega) (by omega)
                            subst e1
                            subst e2
                            rw [Int.toNat_natCast] at x1 x2
                            have ho3 := HO3.out k hlt
                            have ho4 := HAT.out k hlt
                            have hlt' : (k : Int) < (bs.length : Int) := by omega
                            obtain ⟨xo, hxo⟩ : ∃ xo, xo = rdOf ByteArray.empty out (k : Int) := ⟨_, rfl⟩
                            obtain ⟨xw, hxw⟩ : ∃ xw, xw = rdOf ByteArray.empty out2 (k : Int) := ⟨_, rfl⟩
                            rw [← hxo] at x1
                            rw [← hxw] at x2
                            have hxo' : xo = out.getD k ByteArray.empty := hxo
                            have hxw' : xw = out2.getD k ByteArray.empty := hxw
                            rw [← hxo'] at ho3
                            rw [← hxw'] at ho4
                            have h5 : xo.toList.isEmpty = xw.toList.isEmpty := by
                              rw [ho4, ho3]
                              cases hasB F (k : Int) with
                              | true =>
                                rw [if_pos rfl, List.getD_eq_getElem?_getD, List.getElem?_eq_getElem hlt, Lib.toList_data]
                                show (bs[k].data.toList.isEmpty) = false
                                cases hd : bs[k].data.toList with
                                | nil =>
                                  have h6 : bs[k].size = 0 := by
                                    show bs[k].data.size = 0
                                    rw [← Array.length_toList, hd]; rfl
                                  have := HZ3.out bs[k] (List.getElem_mem _)
                                  omega
                                | cons _ _ => rfl
                              | false => rw [if_neg (by decide), Lib.toList_data]; rfl
                            clear ho3 ho4 hxo hxw hxo' hxw'
                            obtain ⟨bb, hbb⟩ : ∃ bb, xw.toList.isEmpty = bb := ⟨_, rfl⟩
                            rw [hbb] at h5
                            cases bb <;> (
                              go_wp2_with fail
                              go_quiet (fail)
                              go_wp2_with fail
                              have HD1 : Aside0 (Below wA.heap.size wA (wr.drewN nq)) := ⟨pw_below_drewN HD.out _⟩
                              go_roundw
                              case rel => exact ⟨k + 1, by omega, by go_num, HD1⟩
                              case measure => simp [intOf]; omega)
                          · obtain rfl : k = bs.length := by omega
                            go_wp2_with fail
                            refine (HAW.out _).mono ?_
                            rintro e wC ⟨rfl, hbC⟩
                            have HBC := Aside0.mk (below_step (below_step HBA.out HD.out) hbC)
                            clear hbC
                            go_wp2_with fail
                            go_ret
                            exact ⟨rfl, HBC.out⟩
end Go.Proofs.Ytgcgnnblgimegaa.P
