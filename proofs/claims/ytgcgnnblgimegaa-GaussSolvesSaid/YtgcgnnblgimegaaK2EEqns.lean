/- What the claim on this statement wants of the text YtgcgnnblgimegaaEEqns. Not trusted: Lean checks it. -/
import Derived.Test.YtgcgnnblgimegaaK2EGReduce
import Derived.Test.YtgcgnnblgimegaaK2EZero
import Derived.Test.YtgcgnnblgimegaaK2Px4
import Derived.Deep.RegionLaw
namespace Go.Proofs.Ytgcgnnblgimegaa.P
open Go.RowKit Go.Proofs.YtgcgnnblgimegaaW.PrintWords Go.Proofs.YtgcgnnblgimegaaW.PrintLast Go.Proofs.YtgcgnnblgimegaaW.PrintMore
open Go.Proofs.Ytgcgnnblgimegaa.Red
set_option linter.unusedVariables false
set_option linter.unusedSimpArgs false
/-- A row that came in: where it lies, and its numbers. -/
structure Rw where
  A : Option Addr
  c : Nat
  l : List Int
def rwC (t : Rw) : List Value := [.slice t.A t.l.length t.c]
def kRw : Kd Rw := flat rwC 1 (fun _ => rfl) (fun t u hu => by
  simp [rwC] at hu
  rw [hu]; rfl)
theorem rw_rows {w W : World} {A : Option Addr} {n : Nat} {ts : List Rw} (h : kRw.C W A n ts) (hb : Below w.heap.size w W) (ht : ∀ t ∈ ts, t.l.length ≤ t.c ∧ Kd.C (Kd.int .i64) w t.A t.l.length t.l) :
    Kd.C (Kd.slice 3 (Kd.int .i64)) W A n (ts.map (fun t : Rw => t.l)) := by
  obtain ⟨h1, h2, h3⟩ := h
  refine ⟨by rw [List.length_map]; exact h1, h2, fun hn => ?_⟩
  obtain ⟨ad, e, hc⟩ := h3 hn
  refine ⟨ad, e, fun j p hj => ?_⟩
  rw [List.getElem?_map] at hj
  obtain ⟨t, htj, rfl⟩ := Option.map_eq_some_iff.1 hj
  obtain ⟨c, hcl, hK, hcc⟩ := hc j t htj
  have hm := ht t (List.mem_of_getElem? htj)
  exact ⟨c, hcl, ⟨t.A, t.c, hK, hm.1, Kd.C_below hm.2 hb⟩, hcc⟩
def isB (s : ByteArray) (size : Int) : Bool := decide (1 ≤ size) && decide (size ≤ 64) && ((s.size : Int) == size)
theorem is_f (s : ByteArray) (size : Int) : block_Is.f s size = some (isB s size) := by
  unfold block_Is.f block_may.f isB
  by_cases h1 : size ≥ 1
  · rw [if_pos h1]
    by_cases h2 : size ≤ 64
    · simp [h2, show (1 : Int) ≤ size from h1]
    · simp [h2]
  · rw [if_neg h1]
    have : ¬ (1 : Int) ≤ size := h1
    simp [this]
theorem isBelow {w w' : World} (h : Drawn0 w w') : Below w.heap.size w w' := h.below
def eqB (n size : Int) (l : List S41) : Bool := l.all (fun x => isB x.f1 size) && mayB n (l.map (fun x : S41 => x.f0)) && (decide (1 ≤ size) && decide (size ≤ 64))
def eqSide (x : S41) : Sd := ⟨ofL x.f0, x.f1⟩
def eqL (n size : Int) (l : List S41) : List Sd := if eqB n size l then l.map eqSide else []
set_option maxHeartbeats 1000000 in
set_option maxRecDepth 100000 in
theorem eqns_calls (n size : Int) (A2 : Option Addr) (c2 : Nat) (l : List S41) (w : World) (hr : k41.C w A2 l.length l) (hl : l.length ≤ 400) :
    Calls Try.prog 35 #[.int .i64 n, .int .i64 size, .slice A2 l.length c2] w fun e w' => ∃ v : Value, e = .returned (.tuple #[v, .bool (eqB n size l)]) ∧
      kSd.R 74 w' w.heap.size (fun _ => True) v (eqL n size l) ∧ Below w.heap.size w w' := by
  have HR := Aside0.mk hr
  have HL := Aside0.mk hl
  have hl' : (l.length : Int) ≤ 400 := by omega
  clear hr hl
  go_enter Try.func35, Try.ntmps35
  go_wp2_with fail
  go_loopw [8, 16] (fun v8 v16 wr => ∃ (k : Nat) (ts : List Rw), k ≤ l.length ∧ v16 = .int .i64 k ∧ Aside0 (ts.map (fun t : Rw => t.l) = (l.take k).map (fun x : S41 => x.f0)) ∧ Aside0 (kRw.R 38 wr w.heap.size (fun _ => True) v8 ts) ∧
    Aside0 (∀ t ∈ ts, t.l.length ≤ t.c ∧ Kd.C (Kd.int .i64) w t.A t.l.length t.l) ∧ Aside0 (Below w.heap.size w wr) ∧ Aside0 (∀ x ∈ l.take k, isB x.f1 size = true)) (fun _ v16 _ => l.length - (intOf v16).toNat)
  case atStart => exact ⟨0, [], by omega, rfl, ⟨rfl⟩, ⟨Kd.R_nil _ _ _ _ _⟩, ⟨fun _ h => by cases h⟩, ⟨Below.refl _ _⟩, ⟨fun _ h => by simp at h⟩⟩
  case round =>
    obtain ⟨k, ts, hk, rfl, HM, HO, HT, HB, HI⟩ := hrel
    have HTL : Aside0 (ts.length = k) := ⟨by have := congrArg List.length HM.out; rw [List.length_map, List.length_map, List.length_take] at this; omega⟩
    by_cases hlt : k < l.length
    · obtain ⟨ad, A1, c1, e, c0, c1', hc1, hC1⟩ := at_T41 (Kd.C_below HR.out HB.out) (k : Int) (by omega) (by omega)
      obtain ⟨ad', A1', c1'', e', d0, _, hd1, hD1⟩ := at_T41 HR.out (k : Int) (by omega) (by omega)
      cases e
      cases e'
      have d0' := pw_cell_below HB.out d0
      rw [c0] at d0'
      injection d0' with d0'
      injection d0' with ea _ ec
      subst ea ec
      rw [Int.toNat_natCast] at c0 c1'
      obtain ⟨x, hx⟩ : ∃ x, x = rd_T41 l (k : Int) := ⟨_, rfl⟩
      rw [← hx] at c0 c1' hd1 hD1
      have HX : Aside0 (l.take (k + 1) = l.take k ++ [x]) := ⟨by rw [List.take_succ_eq_append_getElem hlt, hx]; simp [rd_T41, hlt]⟩
      have HXM : Aside0 (x ∈ l) := ⟨by rw [hx]; simp [rd_T41, hlt]⟩
      have HD1 := Aside0.mk hD1
      have HD2 := Aside0.mk hd1
      have hlt' : (k : Int) < (l.length : Int) := by omega
      obtain ⟨A8, c8, e8⟩ := Kd.R_slice HO.out
      subst e8
      have hgt : decide (400 < (ts.length : Int)) = false := decide_eq_false (by have := HTL.out; omega)
      have HIS := Aside0.mk (fun w => block_Is.calls x.f1 size (isB x.f1 size) w (is_f x.f1 size))
      clear d0 hc1 hC1 hx hD1 hd1
      cases hb : isB x.f1 size with
      | false =>
        rw [hb] at HIS
        have HE : Aside0 (eqB n size l = false) := ⟨by
          unfold eqB
          have : l.all (fun x => isB x.f1 size) = false := List.all_eq_false.2 ⟨x, HXM.out, by rw [hb]; decide⟩
          rw [this]; rfl⟩
        clear hb
        go_wp2_with fail
        refine (HIS.out _).mono ?_
        rintro e w1 ⟨rfl, hb1⟩
        have HB1 := Aside0.mk (below_step HB.out (below_step (below_alloc (Below.refl _ wr) (.cells #[.slice A1 x.f0.length c1, .string x.f1] 41)) (isBelow hb1)))
        clear hb1 HIS
        go_wp2_with fail
        go_ret2
        have hL : eqL n size l = [] := by unfold eqL; rw [HE.out]; rfl
        rw [HE.out, hL]
        exact ⟨_, rfl, Kd.R_nil _ _ _ _ _, HB1.out⟩
      | true =>
        rw [hb] at HIS
        have HI1 : Aside0 (∀ y ∈ l.take (k + 1), isB y.f1 size = true) := ⟨fun y hy => by
          rw [HX.out] at hy
          rcases List.mem_append.1 hy with hy | hy
          · exact HI.out y hy
          · rw [List.mem_singleton.1 hy]; exact hb⟩
        have HM1 : Aside0 ((ts ++ [(⟨A1, c1, x.f0⟩ : Rw)]).map (fun t : Rw => t.l) = (l.take (k + 1)).map (fun x : S41 => x.f0)) := ⟨by rw [HX.out, List.map_append, List.map_append, HM.out]; rfl⟩
        have HT1 : Aside0 (∀ t ∈ ts ++ [(⟨A1, c1, x.f0⟩ : Rw)], t.l.length ≤ t.c ∧ Kd.C (Kd.int .i64) w t.A t.l.length t.l) := ⟨fun t ht => by
          rcases List.mem_append.1 ht with ht | ht
          · exact HT.out t ht
          · rw [List.mem_singleton.1 ht]; exact ⟨HD2.out, HD1.out⟩⟩
        clear hb
        go_wp2_with fail
        refine (HIS.out _).mono ?_
        rintro e w1 ⟨rfl, hb1⟩
        have hb2 := below_step (below_alloc (Below.refl _ wr) (.cells #[.slice A1 x.f0.length c1, .string x.f1] 41)) (isBelow hb1)
        have HB1 := Aside0.mk (below_step HB.out hb2)
        have HO1 := Aside0.mk (Kd.R_below HO.out hb2)
        have hq := heap_alloc_new wr (.cells #[.slice A1 x.f0.length c1, .string x.f1] 41)
        have hq1 := ((isBelow hb1).block wr.heap.size (by show wr.heap.size < (wr.heap.push _).size; simp)).trans hq
        have q0 : w1.cell? ⟨wr.heap.size, 0, none⟩ = some (.slice A1 x.f0.length c1) := by simp only [World.cell?, hq1]; rfl
        clear hb1 hb2 HIS HB HO c0 c1' hq hq1
        go_wp2_with ((with_reducible refine gate_builtin (b := .append) (xs := #[.tmp 30, .tmp 33]) rfl ?_); at_builtin; refine Kd.R_append kRw (w0 := w) w.heap.size rfl (.tmp 30) (.tmp 33) 35 38 (.slice none 0 0) 24 rfl Try.underlying35 info38 rfl (by decide) (by omega) (.slice A8 ts.length c8) ts (⟨A1, c1, x.f0⟩ : Rw) [.slice A1 x.f0.length c1] (fun _ => True) (fun _ => False) rfl rfl rfl (fun _ hk => hk.elim) (fun _ _ => trivial) HO1.out HB1.out HB1.out.size (by have := HTL.out; omega) ?_; intro v7 w7 hr7 hb7 hg7 hat7; have H7 := Aside0.mk hr7; have H8 := Aside0.mk hb7; clear HO1 HB1 hr7 hb7 hg7 hat7)
        go_roundw
        case rel => exact ⟨k + 1, _, by omega, by go_num, HM1, H7, HT1, H8, HI1⟩
        case measure => simp [intOf]; omega
    · obtain rfl : k = l.length := by omega
      have HM1 : Aside0 (ts.map (fun t : Rw => t.l) = l.map (fun x : S41 => x.f0)) := ⟨by have := HM.out; rwa [List.take_length] at this⟩
      have HI1 : Aside0 (l.all (fun x => isB x.f1 size) = true) := ⟨by rw [List.all_eq_true]; intro x hx; have := HI.out x; rw [List.take_length] at this; exact this hx⟩
      have HTL1 : Aside0 (ts.length = l.length) := ⟨HTL.out⟩
      obtain ⟨A8, c8, e8⟩ := Kd.R_slice HO.out
      subst e8
      obtain ⟨rows, hrows⟩ : ∃ rows, rows = ts.map (fun t : Rw => t.l) := ⟨_, rfl⟩
      have hlen : ts.length = rows.length := by rw [hrows, List.length_map]
      have hCr := rw_rows (Kd.R_reads' HO.out).2.2 HB.out HT.out
      rw [← hrows, hlen] at hCr
      have HCr := Aside0.mk hCr
      have HCM := Aside0.mk (gauss_May.calls n A8 c8 rows (mayB n rows) wr hCr (by rw [← hlen]; exact (Kd.R_reads' HO.out).2.1) rfl)
      have HEQ : Aside0 (eqB n size l = (mayB n rows && (decide (1 ≤ size) && decide (size ≤ 64)))) := ⟨by unfold eqB; rw [HI1.out, hrows, HM1.out]; rfl⟩
      have HLR : Aside0 (rows = l.map (fun x : S41 => x.f0)) := ⟨hrows.trans HM1.out⟩
      rw [hlen] at HO ⊢
      clear hk hlt HM HI HTL hrows hCr hlen HT
      cases hm : mayB n rows with
      | false =>
        rw [hm] at HCM HEQ
        have HE : Aside0 (eqB n size l = false) := ⟨HEQ.out⟩
        clear hm
        go_wp2_with fail
        refine HCM.out.mono ?_
        rintro e w1 ⟨rfl, hb1⟩
        have HB1 := Aside0.mk (below_step HB.out hb1)
        clear hb1 HCM
        go_wp2_with fail
        go_ret2
        have hL : eqL n size l = [] := by unfold eqL; rw [HE.out]; rfl
        rw [HE.out, hL]
        exact ⟨_, rfl, Kd.R_nil _ _ _ _ _, HB1.out⟩
      | true =>
        rw [hm] at HCM HEQ
        have HP := Aside0.mk (may_parts hm)
        clear hm
        by_cases hsz : 1 ≤ size ∧ size ≤ 64
        · have HE : Aside0 (eqB n size l = true) := ⟨by rw [HEQ.out, decide_eq_true hsz.1, decide_eq_true hsz.2]; rfl⟩
          have HZ := Aside0.mk (fun w => block_Zero.calls size (zeroB size.toNat) w (by unfold block_Zero.f; rw [if_pos hsz]))
          obtain ⟨zb, hzb⟩ : ∃ zb, zb = zeroB size.toNat := ⟨_, rfl⟩
          rw [← hzb] at HZ
          have hne : zb ≠ ⟨#[]⟩ := by
            intro e
            have h1 := zeroB_size size.toNat
            rw [← hzb, e] at h1
            have : (0 : Nat) = size.toNat := h1
            omega
          have hn2 : zb.toList.isEmpty = false := by
            rw [Lib.toList_data]
            cases hd : zb.data.toList with
            | nil =>
              exfalso
              apply hne
              exact ByteArray.ext (Array.ext' hd)
            | cons _ _ => rfl
          clear hzb hsz hne
          go_wp2_with fail
          refine HCM.out.mono ?_
          rintro e w1 ⟨rfl, hb1⟩
          have HB1 := Aside0.mk (below_step HB.out hb1)
          have HO1 := Aside0.mk (Kd.R_below HO.out hb1)
          have HCr1 := Aside0.mk (Kd.C_below HCr.out hb1)
          clear hb1 HCM HB HO HCr
          go_wp2_with fail
          refine (HZ.out _).mono ?_
          rintro e w2 ⟨rfl, hb2⟩
          have HB2 := Aside0.mk (below_step HB1.out hb2)
          have HO2 := Aside0.mk (Kd.R_below HO1.out hb2)
          have HCr2 := Aside0.mk (Kd.C_below HCr1.out hb2)
          clear hb2 HZ HB1 HO1 HCr1
          go_wp2_with fail
          have HLN : Aside0 (rows.length = l.length) := ⟨by rw [HLR.out, List.length_map]⟩
          go_loopw [9, 47] (fun v9 v47 wr => ∃ k : Nat, k ≤ l.length ∧ v47 = .int .i64 k ∧ Aside0 (kSd.R 74 wr w2.heap.size (fun _ => True) v9 ((l.take k).map eqSide)) ∧ Aside0 (Below w2.heap.size w2 wr)) (fun _ v47 _ => l.length - (intOf v47).toNat)
          case atStart => exact ⟨0, by omega, rfl, ⟨Kd.R_nil _ _ _ _ _⟩, ⟨Below.refl _ _⟩⟩
          case round =>
            obtain ⟨k, hk, rfl, HO, HD⟩ := hrel
            have HB := Aside0.mk (below_step HB2.out HD.out)
            by_cases hlt : k < l.length
            · obtain ⟨ad, A1, c1, e, hx, hc1, hC1⟩ := at_L1 (Kd.C_below HCr2.out HD.out) (k : Int) (by omega) (by rw [HLN.out]; omega)
              obtain ⟨ad', A1', c1', e', d0, d1, _, _⟩ := at_T41 (Kd.C_below HR.out HB.out) (k : Int) (by omega) (by omega)
              cases e
              cases e'
              rw [Int.toNat_natCast] at hx d0 d1
              obtain ⟨s, hse⟩ : ∃ s, s = rd_L1 rows (k : Int) := ⟨_, rfl⟩
              obtain ⟨x, hxe⟩ : ∃ x, x = rd_T41 l (k : Int) := ⟨_, rfl⟩
              rw [← hse] at hx hc1 hC1
              rw [← hxe] at d0 d1
              have hxm : x ∈ l := by rw [hxe]; simp [rd_T41, hlt]
              have hsx : s = x.f0 := by rw [hse, hxe, HLR.out]; simp [rd_L1, rd_T41, hlt]
              have hsm : s ∈ rows := by rw [HLR.out, hsx]; exact List.mem_map_of_mem hxm
              have hin : ∀ i ∈ s, 0 ≤ i ∧ i < 192 := fun i hi => by
                have h1 := HP.out.2.2.2 s hsm i hi
                have h2 := HP.out.2.1
                omega
              have HT : Aside0 ((l.take (k + 1)).map eqSide = (l.take k).map eqSide ++ [eqSide x]) := ⟨by
                rw [List.take_succ_eq_append_getElem hlt, List.map_append, hxe]
                simp [rd_T41, hlt]⟩
              have HC := Aside0.mk (fun (W : World) (hb : Below wr.heap.size wr W) => of_calls A1 c1 s W (Kd.C_below hC1 hb) hc1 hin)
              have HD1 := Aside0.mk (fun (W : World) (hb : Below wr.heap.size wr W) => pw_cell_below hb d1)
              have HSC : Aside0 (sdC (eqSide x) = [.int .u64 (wd (ofL s) 0), .int .u64 (wd (ofL s) 1), .int .u64 (wd (ofL s) 2), .string x.f1]) := ⟨by rw [hsx]; rfl⟩
              unfold rowV at HC
              have hlt' : (k : Int) < (l.length : Int) := by omega
              have hlt2 : (k : Int) < (rows.length : Int) := by rw [HLN.out]; omega
              have hh := HL.out
              clear hse hC1 hc1 hsm hin hsx hxe hxm d0
              go_wp2_with fail
              have HV := Aside0.mk (fun (W : World) (v : Value) (h : kSd.R 74 W w2.heap.size (fun _ => True) v ((l.take k).map eqSide ++ [eqSide x])) => (HT.out ▸ h : kSd.R 74 W w2.heap.size (fun _ => True) v ((l.take (k + 1)).map eqSide)))
              have d1' := HD1.out _ (below_drew1 (Below.refl _ wr))
              go_region_law (first
                | (refine Kd.R_append_step kSd (w0 := w2) w2.heap.size (by rfl) (.tmp 52) (.tmp 61) 64 74 (.agg #[.int .u64 0, .int .u64 0, .int .u64 0, .string ⟨#[]⟩]) 40 rfl Try.underlying64 info74 rfl (by decide) (by omega) u9 ((l.take k).map eqSide) (eqSide x) [.int .u64 (wd (ofL s) 0), .int .u64 (wd (ofL s) 1), .int .u64 (wd (ofL s) 2), .string x.f1] (fun _ => True) (fun _ => False) (by simp [Act.eval, Act.put]) (by simp [Act.eval, Act.put]) HSC.out.symm (fun _ hk => hk.elim) (fun _ _ => trivial) HO1.out HB1.out HB1.out.size (by rw [List.length_map, List.length_take]; omega) ?_; intro v7 w7 hr7 hb7 hg7 hat7; have H7 := Aside0.mk (HV.out _ _ hr7); have H8 := Aside0.mk hb7; have H9 := Aside0.mk (below_size hb7); clear HO1 HB1 hr7 hb7 hg7 hat7)
                | (go_simp; go_at_call 72; refine (HC.out _ (below_drew1 (Below.refl _ wr))).mono ?_; rintro e w3 ⟨rfl, hb3⟩; have hb4 := below_step (below_drew1 (Below.refl _ wr)) hb3; have HB1 := Aside0.mk (below_step HD.out hb4); have HO1 := Aside0.mk (Kd.R_below HO.out hb4); have d1'' := HD1.out _ hb4; clear hb3 hb4))
              all_goals
                clear HO HC HV HT HSC HD d1' HB
                go_wp2_with fail
                go_roundw
                case rel => exact ⟨k + 1, by omega, by go_num, H7, H8⟩
                case measure => simp [intOf]; omega
            · obtain rfl : k = l.length := by omega
              have hge : ¬ (l.length : Int) < (rows.length : Int) := by rw [HLN.out]; omega
              go_wp2_with fail
              go_ret2
              have hL : eqL n size l = l.map eqSide := by unfold eqL; rw [HE.out]; rfl
              rw [HE.out, hL]
              have := HO.out
              rw [List.take_length] at this
              exact ⟨_, rfl, Kd.R_lower this (below_size HB2.out), HB.out⟩
        · have HE : Aside0 (eqB n size l = false) := ⟨by
            rw [HEQ.out]
            by_cases h1 : 1 ≤ size
            · rw [decide_eq_false (p := size ≤ 64) (fun h => hsz ⟨h1, h⟩)]; simp
            · rw [decide_eq_false h1]; rfl⟩
          have HZ := Aside0.mk (fun w => block_Zero.calls size ⟨#[]⟩ w (by unfold block_Zero.f; rw [if_neg hsz]))
          clear hsz
          go_wp2_with fail
          refine HCM.out.mono ?_
          rintro e w1 ⟨rfl, hb1⟩
          have HB1 := Aside0.mk (below_step HB.out hb1)
          clear hb1 HCM HB
          go_wp2_with fail
          refine (HZ.out _).mono ?_
          rintro e w2 ⟨rfl, hb2⟩
          have HB2 := Aside0.mk (below_step HB1.out hb2)
          clear hb2 HZ HB1
          go_wp2_with fail
          go_ret2
          have hL : eqL n size l = [] := by unfold eqL; rw [HE.out]; rfl
          rw [HE.out, hL]
          exact ⟨_, rfl, Kd.R_nil _ _ _ _ _, HB2.out⟩
end Go.Proofs.Ytgcgnnblgimegaa.P
