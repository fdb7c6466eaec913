/- What the claim on this statement wants of the text YtgcgnnblgimegaaERefSolveW. Not trusted: Lean checks it. -/
import Derived.Test.YtgcgnnblgimegaaK2ERefSolve
namespace Go.Proofs.Ytgcgnnblgimegaa.P
open Go.RowKit Go.Proofs.YtgcgnnblgimegaaW.PrintWords Go.Proofs.YtgcgnnblgimegaaW.PrintLast Go.Proofs.YtgcgnnblgimegaaW.PrintMore
open Go.Proofs.Ytgcgnnblgimegaa.Red
set_option linter.unusedVariables false
set_option linter.unusedSimpArgs false
def may7 (a1 : Int) : Bool := decide (1 ≤ a1) && decide (a1 ≤ 64)
theorem may7_f (a1 : Int) : mosaicref07_May.f a1 = some (may7 a1) := by
  unfold mosaicref07_May.f may7
  by_cases h1 : a1 ≥ 1
  · rw [if_pos h1, decide_eq_true (show 1 ≤ a1 from h1)]; rfl
  · rw [if_neg h1, decide_eq_false (show ¬ 1 ≤ a1 from h1)]; rfl
def toRw (t : Eq4) : Rw := ⟨t.A, t.c, t.l⟩
/-- What holds in the first loop. -/
structure RsW (w wr : World) (a1 : Int) (l : List S41) (k : Nat) (v8 v9 : Value) (ts : List Eq4) : Prop where
  r8 : kRw.R 38 wr w.heap.size (fun _ => True) v8 (ts.map toRw)
  r9 : kEq.R 81 wr w.heap.size (fun _ => True) v9 ts
  eq : ts.map Eq4.s = l.take k
  ok : ∀ t ∈ ts, (t.l.length ≤ t.c ∧ Kd.C (Kd.int .i64) w t.A t.l.length t.l) ∧ (t.b.size : Int) = a1
  below : Below w.heap.size w wr
theorem kRw_ne : ∀ q, q ∈ 38 :: kRw.E → q ≠ 81 := fun q hq => by
  have : q = 38 := by simpa [kRw, flat] using hq
  omega
def pickS (i : Int) (b : ByteArray) (x : S41) : ByteArray := if x.f0.length = 1 ∧ rd x.f0 0 = i then x.f1 else b
/-- What is read behind Reduce: none of it is written any more. -/
structure RsR (w W : World) (g n : Nat) (AL AE : Option Addr) (cL cE : Nat) (tL : List Eq4) (Es : List ByteArray) : Prop where
  box : W.heap[g]? = some (.cells #[.slice AL tL.length cL, .slice AE Es.length cE] 83 (0, 0))
  rL : kEq.C W AL tL.length tL
  rE : Kd.C Kd.string W AE Es.length Es
  ok : ∀ t ∈ tL, Kd.C (Kd.int .i64) W t.A t.l.length t.l
  below : Below w.heap.size w W
set_option maxHeartbeats 1500000 in
set_option maxRecDepth 100000 in
theorem refSolve_calls (a0 a1 : Int) (A2 : Option Addr) (c2 : Nat) (l : List S79) (w : World) (hr : k79.C w A2 l.length l) (hl : l.length ≤ 400) :
    Calls Try.prog 11 #[.int .i64 a0, .int .i64 a1, .slice A2 l.length c2] w fun e w' => ∃ v : Value, e = .returned (.tuple #[v, .int .i64 (refSolveB a0 a1 (l.map to41)).2]) ∧
      Kd.R Kd.string 9 w' w.heap.size (fun _ => True) v (refSolveB a0 a1 (l.map to41)).1 ∧ Below w.heap.size w w' := by
  have HR := Aside0.mk hr
  have hl' : (l.length : Int) ≤ 400 := by omega
  have HM := Aside0.mk (fun w => mosaicref07_May.calls a1 (may7 a1) w (may7_f a1))
  clear hr
  obtain ⟨m7, hm7⟩ : ∃ m7, m7 = may7 a1 := ⟨_, rfl⟩
  rw [← hm7] at HM
  have HM7 := Aside0.mk hm7
  clear hm7
  go_enter Try.func11, Try.ntmps11
  cases m7 with
  | false =>
    have HF : Aside0 (refSolveB a0 a1 (l.map to41) = ([], 1)) := ⟨by
      unfold refSolveB okB
      have : (decide (1 ≤ a1) && decide (a1 ≤ 64)) = false := HM7.out.symm
      rw [this]; rfl⟩
    go_wp2_with fail
    refine (HM.out _).mono ?_
    rintro e w1 ⟨rfl, hd1⟩
    have HB := Aside0.mk hd1.below
    clear hd1 HM
    go_wp2_with fail
    go_ret2
    rw [HF.out]
    exact ⟨_, rfl, Kd.R_nil _ _ _ _ _, HB.out⟩
  | true =>
    go_wp2_with fail
    refine (HM.out _).mono ?_
    rintro e w1 ⟨rfl, hd1⟩
    have HB := Aside0.mk hd1.below
    have HS : Aside0 (1 ≤ a1 ∧ a1 ≤ 64) := ⟨by
      have := HM7.out
      unfold may7 at this
      simpa using this.symm⟩
    clear hd1 HM
    go_wp2_with fail
    go_loopw [8, 9, 10] (fun v8 v9 v10 wr => ∃ (k : Nat) (ts : List Eq4), k ≤ l.length ∧ v10 = .int .i64 k ∧ Aside0 (RsW w wr a1 (l.map to41) k v8 v9 ts)) (fun _ _ v10 _ => l.length - (intOf v10).toNat)
    case atStart => exact ⟨0, [], by omega, rfl, ⟨⟨Kd.R_nil _ _ _ _ _, Kd.R_nil _ _ _ _ _, rfl, (fun _ h => by cases h), HB.out⟩⟩⟩
    case round =>
      obtain ⟨k, ts, hk, rfl, HA⟩ := hrel
      have HTL : Aside0 (ts.length = k) := ⟨by have := congrArg List.length HA.out.eq; rw [List.length_map, List.length_take, List.length_map] at this; omega⟩
      by_cases hlt : k < l.length
      · obtain ⟨ad, A1, c1, e, c0, c1', hc1, hC1⟩ := at_T79 (Kd.C_below HR.out HA.out.below) (k : Int) (by omega) (by omega)
        obtain ⟨ad', A1', c1'', e', d0, d1, hd1, hD1⟩ := at_T79 HR.out (k : Int) (by omega) (by omega)
        cases e
        cases e'
        have d0' := pw_cell_below HA.out.below d0
        rw [c0] at d0'
        injection d0' with d0'
        injection d0' with ea _ ec
        subst ea ec
        rw [Int.toNat_natCast] at c0 c1'
        obtain ⟨x, hx⟩ : ∃ x, x = rd_T79 l (k : Int) := ⟨_, rfl⟩
        rw [← hx] at c0 c1' hd1 hD1
        have HX : Aside0 ((l.map to41).take (k + 1) = (l.map to41).take k ++ [to41 x]) := ⟨by rw [List.take_succ_eq_append_getElem (by rw [List.length_map]; exact hlt), List.getElem_map, hx]; simp [rd_T79, hlt]⟩
        have HXM : Aside0 (to41 x ∈ l.map to41) := ⟨List.mem_map_of_mem (by rw [hx]; simp [rd_T79, hlt])⟩
        have HD := Aside0.mk (And.intro hd1 hD1)
        rw [← hx, Int.toNat_natCast] at d0 d1
        have HD0 := Aside0.mk d0
        have HD1 := Aside0.mk d1
        clear d1
        have hlt' : (k : Int) < (l.length : Int) := by omega
        have hsx : x.f1.size ≤ 9223372036854775807 ∨ True := .inr trivial
        clear d0 hc1 hC1 hx hD1 hd1 hsx
        by_cases hs : (x.f1.size : Int) = a1
        · have hs1 : ((x.f1.size : Int) != a1) = false := by simpa using hs
          have hs2 : ((x.f1.size : Int) == a1) = true := by simpa using hs
          have HSX := Aside0.mk hs
          obtain ⟨A8, c8, e8⟩ := Kd.R_slice HA.out.r8
          rw [List.length_map] at e8
          subst e8
          obtain ⟨A9, c9, e9⟩ := Kd.R_slice HA.out.r9
          subst e9
          clear hs
          go_wp2_with ((with_reducible refine gate_builtin (b := .append) (xs := #[.tmp 39, .tmp 45]) rfl ?_); at_builtin; refine Kd.R_append kRw (w0 := w) w.heap.size rfl (.tmp 39) (.tmp 45) 35 38 (.slice none 0 0) 24 rfl Try.underlying35 info38 rfl (by decide) (by omega) (.slice A8 ts.length c8) (ts.map toRw) (⟨A1, c1, x.f0⟩ : Rw) [.slice A1 x.f0.length c1] (fun _ => True) (fun _ => False) rfl rfl rfl (fun _ hk => hk.elim) (fun _ _ => trivial) HA.out.r8 HA.out.below HA.out.below.size (by rw [List.length_map]; have := HTL.out; omega) ?_; intro v7 w7 hr7 hb7 hg7 hat7; have H7 := Aside0.mk hr7; have H8 := Aside0.mk hb7; have H9 := Aside0.mk (Kd.R_over HA.out.r9 HA.out.r8 (kEq_ne 38 (by decide)) hg7); clear c0 c1'; have c0 := pw_cell_below hb7 HD0.out; have c1' := pw_cell_below hb7 HD1.out; clear hr7 hb7 hg7 hat7)
          go_wp2_with fail
          have HB8 := Aside0.mk (below_drew1 H8.out)
          have HO9 := Aside0.mk (Kd.R_drew H9.out)
          have HO7 := Aside0.mk (Kd.R_drew H7.out)
          clear c0 c1'
          have c0 := pw_cell_below HB8.out HD0.out
          have c1' := pw_cell_below HB8.out HD1.out
          have htl : ts.length ≤ 400 := by have := HTL.out; omega
          go_region_law (refine Kd.R_append_step kEq (w0 := w) w.heap.size (by rfl) (.tmp 47) (.tmp 59) 77 81 (.agg #[.slice none 0 0, .string ⟨#[]⟩]) 40 rfl Try.underlying77 info81' rfl (by decide) (by omega) (.slice A9 ts.length c9) ts (⟨A1, c1, x.f0, x.f1⟩ : Eq4) [.slice A1 x.f0.length c1, .string x.f1] (fun _ => True) (fun _ => False) (by simp [Act.eval, Act.put]) (by simp [Act.eval, Act.put]) rfl (fun _ hk => hk.elim) (fun _ _ => trivial) HO9.out HB8.out HB8.out.size (by omega) ?_; intro v9 w9 hr9 hb9 hg9 hat9; have H17 := Aside0.mk hr9; have H18 := Aside0.mk hb9; have H19 := Aside0.mk (Kd.R_over HO7.out HO9.out kRw_ne hg9); clear hr9 hb9 hg9 hat9)
          all_goals
           clear c0 c1'
           go_wp2_with fail
           go_roundw
           case rel => exact ⟨k + 1, ts ++ [⟨A1, c1, x.f0, x.f1⟩], by omega, by go_num, ⟨{
            r8 := by rw [List.map_append]; exact H19.out
            r9 := H17.out
            eq := by rw [HX.out, List.map_append, HA.out.eq]; rfl
            ok := fun t ht => by
              rcases List.mem_append.1 ht with ht | ht
              · exact HA.out.ok t ht
              · rw [List.mem_singleton.1 ht]; exact ⟨HD.out, HSX.out⟩
            below := H18.out }⟩⟩
           case measure => simp [intOf]; omega
        · have HF : Aside0 (refSolveB a0 a1 (l.map to41) = ([], 1)) := ⟨by
            unfold refSolveB okB
            have : (l.map to41).all (fun x => ((x.f1.size : Int) == a1)) = false := List.all_eq_false.2 ⟨_, HXM.out, by simpa [to41] using hs⟩
            rw [this]; simp⟩
          have hs1 : ((x.f1.size : Int) != a1) = true := by simpa using hs
          have hs2 : ((x.f1.size : Int) == a1) = false := by simpa using hs
          clear hs
          go_wp2_with fail
          go_ret2
          rw [HF.out]
          exact ⟨_, rfl, Kd.R_nil _ _ _ _ _, HA.out.below⟩
      · obtain rfl : k = l.length := by omega
        have HEQ : Aside0 (ts.map Eq4.s = l.map to41) := ⟨by have := HA.out.eq; rwa [List.take_of_length_le (by rw [List.length_map]; exact Nat.le_refl _)] at this⟩
        obtain ⟨A8, c8, e8⟩ := Kd.R_slice HA.out.r8
        obtain ⟨A9, c9, e9⟩ := Kd.R_slice HA.out.r9
        subst e9
        obtain ⟨rows, hrows⟩ : ∃ rows, rows = (l.map to41).map (fun x : S41 => x.f0) := ⟨_, rfl⟩
        have hrt : (ts.map toRw).map (fun t : Rw => t.l) = rows := by rw [hrows, ← HEQ.out, List.map_map, List.map_map]; rfl
        have hlen : (ts.map toRw).length = rows.length := by rw [← hrt, List.length_map, List.length_map, List.length_map]
        rw [hlen] at e8
        have hr8 := HA.out.r8
        rw [e8, hlen.symm] at hr8
        have hCr := rw_rows (Kd.R_reads' hr8).2.2 HA.out.below (fun t ht => by
          obtain ⟨t', ht', rfl⟩ := List.mem_map.1 ht
          exact (HA.out.ok t' ht').1)
        rw [hrt, hlen] at hCr
        have hrl : ∀ r ∈ rows, r.length ≤ 9223372036854775807 := fun r hr => by
          rw [← hrt] at hr
          obtain ⟨t, ht, rfl⟩ := List.mem_map.1 hr
          obtain ⟨t', ht', rfl⟩ := List.mem_map.1 ht
          exact (HA.out.ok t' ht').1.2.2.1
        obtain ⟨km, hkm⟩ := (refMay_ev a0 rows hCr.2.1 hrl).ex
        have HCM := Aside0.mk (mosaicref12_May.calls km a0 A8 c8 rows (mayB a0 rows) wr hCr (by rw [← hlen]; exact (Kd.R_reads' hr8).2.1) hkm)
        have HOK : Aside0 (okB a0 a1 (l.map to41) = mayB a0 rows) := ⟨by
          unfold okB
          rw [decide_eq_true HS.out.1, decide_eq_true HS.out.2, ← hrows]
          have : (l.map to41).all (fun x => ((x.f1.size : Int) == a1)) = true := by
            rw [List.all_eq_true]
            intro x hx
            rw [← HEQ.out] at hx
            obtain ⟨t, ht, rfl⟩ := List.mem_map.1 hx
            show ((t.b.size : Int) == a1) = true
            simpa using (HA.out.ok t ht).2
          rw [this]; rfl⟩
        subst e8
        clear hk hlt hr8 hCr hrl hkm hlen hrt
        cases hm : mayB a0 rows with
        | false =>
          rw [hm] at HCM HOK
          have HF : Aside0 (refSolveB a0 a1 (l.map to41) = ([], 1)) := ⟨by unfold refSolveB; rw [HOK.out]; rfl⟩
          clear hm hrows
          go_wp2_with fail
          refine HCM.out.mono ?_
          rintro e w1 ⟨rfl, hd1⟩
          have HB1 := Aside0.mk (below_step HA.out.below hd1.below)
          clear hd1 HCM
          go_wp2_with fail
          go_ret2
          rw [HF.out]
          exact ⟨_, rfl, Kd.R_nil _ _ _ _ _, HB1.out⟩
        | true =>
          rw [hm] at HCM HOK
          obtain ⟨p1, p2, p3, p4⟩ := may_parts hm
          obtain ⟨n, rfl⟩ : ∃ n : Nat, a0 = (n : Int) := ⟨a0.toNat, by omega⟩
          have HN : Aside0 (n ≤ 160) := ⟨by omega⟩
          clear hm hrows p1 p2 p3 p4
          go_wp2_with fail
          refine HCM.out.mono ?_
          rintro e w1 ⟨rfl, hd1⟩
          have HB1 := Aside0.mk (below_step HA.out.below hd1.below)
          have hts : ∀ t ∈ ts, RowOk w1.heap.size w1 t ∧ t.b.size = a1.toNat := fun t ht => ⟨RowOk.came (W := w1) (HA.out.ok t ht).1.1 (Kd.C_below (HA.out.ok t ht).1.2 HB1.out), by have := (HA.out.ok t ht).2; omega⟩
          have HRD := Aside0.mk (refReduce_calls n HN.out a1.toNat (by have := HS.out; omega) A9 c9 ts w1 (Kd.C_below (Kd.R_reads' HA.out.r9).2.2 hd1.below) (by have := HTL.out; omega) hts)
          clear hd1 HCM hts
          go_wp2_with fail
          refine HRD.out.mono ?_
          rintro e w2 ⟨vL, vE, tL, rfl, hrL, hrE, hme, hok2, hb2⟩
          rw [HEQ.out] at hrE hme
          obtain ⟨Es, hEs⟩ : ∃ Es, Es = (redR n (l.map to41)).2 := ⟨_, rfl⟩
          rw [← hEs] at hrE
          obtain ⟨AL, cL, eL⟩ := Kd.R_slice hrL
          subst eL
          obtain ⟨AE, cE, eE⟩ := Kd.R_slice hrE
          subst eE
          have HME := Aside0.mk hme
          have HES := Aside0.mk hEs
          have HSO : Aside0 (refSolveB (n : Int) a1 (l.map to41) = if Es.any (nzT (zeroB a1.toNat)) then ([], 9) else ((List.range n).map (fun i : Nat => pickB (tL.map Eq4.s) (i : Int)), 0)) := ⟨by
            unfold refSolveB
            rw [HOK.out, if_pos rfl, Int.toNat_natCast, ← hEs, ← hme]⟩
          obtain ⟨g, hg⟩ : ∃ g, g = w2.heap.size := ⟨_, rfl⟩
          obtain ⟨W, hW⟩ : ∃ W, W = w2.alloc (.cells #[.slice AL tL.length cL, .slice AE Es.length cE] 83) := ⟨_, rfl⟩
          have hbW : Below w2.heap.size w2 W := by rw [hW]; exact below_alloc (Below.refl _ w2) _
          have HQ : Aside0 (RsR w W g n AL AE cL cE tL Es) := ⟨{
            box := by rw [hW, hg]; exact heap_alloc_new _ _
            rL := Kd.C_below (Kd.R_reads' hrL).2.2 hbW
            rE := Kd.C_below (Kd.R_reads' hrE).2.2 hbW
            ok := fun t ht => Kd.C_below (hok2 t ht).rd hbW
            below := below_step (below_step HB1.out hb2) hbW }⟩
          obtain ⟨zb, hzb⟩ : ∃ zb, zb = zeroB a1.toNat := ⟨_, rfl⟩
          obtain ⟨kz, hkz⟩ := (zero7_ev a1.toNat (by have := HS.out; omega) (by have := HS.out; omega)).ex
          rw [show ((a1.toNat : Nat) : Int) = a1 by have := HS.out; omega, ← hzb] at hkz
          have HZ := Aside0.mk (fun w => mosaicref07_Zero.calls kz a1 zb w hkz)
          rw [← hzb] at HSO
          have hEl : Es.length ≤ 9223372036854775807 := HQ.out.rE.2.1
          have hLl : tL.length ≤ 9223372036854775807 := HQ.out.rL.2.1
          clear hrL hrE hme hok2 hb2 hEs hbW hzb hkz HRD HA HTL HEQ HME HES HOK HB1
          go_wp2_with fail
          rw [← hg, ← hW]
          clear hg hW
          go_loopw [12] (fun v12 wr => ∃ k : Nat, k ≤ Es.length ∧ v12 = .int .i64 k ∧ Aside0 (Below W.heap.size W wr) ∧ Aside0 (∀ j, j < k → nzT zb (Es.getD j ByteArray.empty) = false)) (fun v12 _ => Es.length - (intOf v12).toNat)
          case atStart => exact ⟨0, by omega, rfl, ⟨Below.refl _ _⟩, ⟨fun j hj => absurd hj (by omega)⟩⟩
          case round =>
            obtain ⟨k, hk, rfl, HB, HN0⟩ := hrel
            obtain ⟨b0, b1, -⟩ := cell2 ((HB.out.block g (Array.getElem?_eq_some_iff.1 HQ.out.box).1).trans HQ.out.box)
            by_cases hlt : k < Es.length
            · obtain ⟨ad, e, c0⟩ := Kd.at_string (Kd.C_below HQ.out.rE HB.out) (k : Int) (by omega) (by omega)
              subst e
              rw [Int.toNat_natCast] at c0
              obtain ⟨b, hb⟩ : ∃ b, b = rdOf ByteArray.empty Es (k : Int) := ⟨_, rfl⟩
              rw [← hb] at c0
              have HBB : Aside0 (Es.getD k ByteArray.empty = b) := ⟨hb.symm⟩
              have hlt' : (k : Int) < (Es.length : Int) := by omega
              clear hb
              go_wp2_with fail
              have c0' := pw_cell_below (below_drew1 (Below.refl wr.heap.size wr)) c0
              obtain ⟨b0', b1', -⟩ := cell2 ((below_drew1 HB.out).block g (Array.getElem?_eq_some_iff.1 HQ.out.box).1 |>.trans HQ.out.box)
              cases hz : nzT zb b with
              | true =>
                have hz1 : (b.toList == zb.toList) = false := by unfold nzT at hz; simpa using hz
                have HF : Aside0 (Es.any (nzT zb) = true) := ⟨List.any_eq_true.2 ⟨b, by rw [← HBB.out, List.getD_eq_getElem?_getD, List.getElem?_eq_getElem hlt]; exact List.getElem_mem _, hz⟩⟩
                clear hz
                go_region_law (go_simp; go_at_call 43; refine (HZ.out _).mono ?_; rintro e w3 ⟨rfl, hb3⟩; have HB3 := Aside0.mk (below_step (below_drew1 HB.out) hb3); have c0'' := pw_cell_below hb3 c0'; obtain ⟨b0'', b1'', -⟩ := cell2 ((HB3.out.block g (Array.getElem?_eq_some_iff.1 HQ.out.box).1).trans HQ.out.box); clear hb3)
                all_goals
                  go_wp2_with fail
                  go_ret2
                  rw [HSO.out, HF.out]
                  exact ⟨_, rfl, Kd.R_nil _ _ _ _ _, below_step HQ.out.below HB3.out⟩
              | false =>
                have hz1 : (b.toList == zb.toList) = true := by unfold nzT at hz; simpa using hz
                have HF : Aside0 (∀ j, j < k + 1 → nzT zb (Es.getD j ByteArray.empty) = false) := ⟨fun j hj => by
                  by_cases e : j = k
                  · subst e; rw [HBB.out]; exact hz
                  · exact HN0.out j (by omega)⟩
                clear hz
                go_region_law (go_simp; go_at_call 43; refine (HZ.out _).mono ?_; rintro e w3 ⟨rfl, hb3⟩; have HB3 := Aside0.mk (below_step (below_drew1 HB.out) hb3); have c0'' := pw_cell_below hb3 c0'; obtain ⟨b0'', b1'', -⟩ := cell2 ((HB3.out.block g (Array.getElem?_eq_some_iff.1 HQ.out.box).1).trans HQ.out.box); clear hb3)
                all_goals
                  clear c0 c0' c0'' b0 b1 b0' b1' b0'' b1''
                  go_wp2_with fail
                  go_roundw
                  case rel => exact ⟨k + 1, by omega, by go_num, HB3, HF⟩
                  case measure => simp [intOf]; omega
            · obtain rfl : k = Es.length := by omega
              have HF : Aside0 (Es.any (nzT zb) = false) := ⟨by
                rw [List.any_eq_false]
                intro x hx
                obtain ⟨j, hj, rfl⟩ := List.getElem_of_mem hx
                have := HN0.out j hj
                rw [List.getD_eq_getElem?_getD, List.getElem?_eq_getElem hj] at this
                simpa using this⟩
              have HSF : Aside0 (refSolveB (n : Int) a1 (l.map to41) = ((List.range n).map (fun i : Nat => pickB (tL.map Eq4.s) (i : Int)), 0)) := ⟨by rw [HSO.out, HF.out]; rfl⟩
              clear hk hlt HN0 HSO HF HZ
              go_wp2_with fail
              obtain ⟨W3, hW3⟩ : ∃ W3, W3 = wr := ⟨_, rfl⟩
              rw [← hW3] at HB ⊢
              clear hW3 b0 b1
              have HQ3 : Aside0 (RsR w W3 g n AL AE cL cE tL Es) := ⟨{
                box := (HB.out.block g (Array.getElem?_eq_some_iff.1 HQ.out.box).1).trans HQ.out.box
                rL := Kd.C_below HQ.out.rL HB.out
                rE := Kd.C_below HQ.out.rE HB.out
                ok := fun t ht => Kd.C_below (HQ.out.ok t ht) HB.out
                below := below_step HQ.out.below HB.out }⟩
              obtain ⟨m, hm⟩ : ∃ m : Int, m = (n : Int) := ⟨_, rfl⟩
              clear HB HQ
              go_loopw [13, 14] (fun v13 v14 wr => ∃ (i : Nat), i ≤ n ∧ v14 = .int .i64 i ∧ Aside0 (Below W3.heap.size W3 wr) ∧ Aside0 (Kd.R Kd.string 9 wr W3.heap.size (fun _ => True) v13 ((List.range i).map (fun i : Nat => pickB (tL.map Eq4.s) (i : Int))))) (fun _ v14 _ => n - (intOf v14).toNat)
              case atStart => exact ⟨0, by omega, rfl, ⟨Below.refl _ _⟩, ⟨Kd.R_nil _ _ _ _ _⟩⟩
              case round =>
                obtain ⟨i, hi, rfl, HB, HO⟩ := hrel
                have hlen : ((List.range i).map (fun i : Nat => pickB (tL.map Eq4.s) (i : Int))).length = i := by rw [List.length_map, List.length_range]
                by_cases hlt : i < n
                · have hlt' : (i : Int) < (n : Int) := by omega
                  have hi16 : (i : Int) ≤ 160 := by have := HN.out; omega
                  obtain ⟨W4, hW4⟩ : ∃ W4, W4 = wr := ⟨_, rfl⟩
                  rw [← hW4] at HB HO ⊢
                  clear hW4
                  obtain ⟨outs, houts⟩ : ∃ outs, outs = (List.range i).map (fun i : Nat => pickB (tL.map Eq4.s) (i : Int)) := ⟨_, rfl⟩
                  rw [← houts] at HO hlen
                  have HOS := Aside0.mk houts
                  have HOL := Aside0.mk hlen
                  obtain ⟨A13, c13, e13⟩ := Kd.R_slice HO.out
                  subst e13
                  clear houts hlen
                  obtain ⟨b0, b1, -⟩ := cell2 ((HB.out.block g (Array.getElem?_eq_some_iff.1 HQ3.out.box).1).trans HQ3.out.box)
                  go_wp2_with fail
                  go_loop [15, 16] (fun v15 v16 => ∃ k : Nat, k ≤ tL.length ∧ v16 = .int .i64 k ∧ v15 = .string (((tL.take k).map Eq4.s).foldl (pickS (i : Int)) ⟨#[]⟩)) (fun _ v16 => tL.length - (intOf v16).toNat)
                  case atStart => exact ⟨0, by omega, rfl, rfl⟩
                  case round =>
                    obtain ⟨k, hk, rfl, rfl⟩ := hrel
                    by_cases hlt2 : k < tL.length
                    · obtain ⟨x, hx⟩ : ∃ x, x = tL.getD k zEq := ⟨_, rfl⟩
                      obtain ⟨ad, e, c0, c1⟩ := at_eqg (Kd.C_below HQ3.out.rL HB.out) k hlt2 rfl x hx
                      subst e
                      have hxm : x ∈ tL := by rw [hx, List.getD_eq_getElem?_getD, List.getElem?_eq_getElem hlt2]; exact List.getElem_mem _
                      have HXC := Aside0.mk (Kd.C_below (HQ3.out.ok x hxm) HB.out)
                      have HS1 : Aside0 (((tL.take (k + 1)).map Eq4.s).foldl (pickS (i : Int)) ⟨#[]⟩ = pickS (i : Int) (((tL.take k).map Eq4.s).foldl (pickS (i : Int)) ⟨#[]⟩) x.s) := ⟨by
                        rw [List.take_succ_eq_append_getElem hlt2, List.map_append, List.foldl_append, hx, List.getD_eq_getElem?_getD, List.getElem?_eq_getElem hlt2]; rfl⟩
                      obtain ⟨bs, hbs⟩ : ∃ bs, bs = ((tL.take k).map Eq4.s).foldl (pickS (i : Int)) ⟨#[]⟩ := ⟨_, rfl⟩
                      rw [← hbs] at HS1 ⊢
                      have hlt3 : (k : Int) < (tL.length : Int) := by omega
                      clear hx hxm hbs
                      by_cases h1 : x.l.length = 1
                      · obtain ⟨ad2, e2, d0⟩ := Kd.at_int HXC.out (0 : Int) (by omega) (by omega)
                        have hb1 : ((x.l.length : Int) == 1) = true := by simp [h1]
                        have hp1 : 0 < x.l.length := by omega
                        obtain ⟨A', c', l', bb, rfl⟩ : ∃ A' c' l' bb, x = (⟨A', c', l', bb⟩ : Eq4) := ⟨x.A, x.c, x.l, x.b, rfl⟩
                        dsimp only at c0 c1 e2 d0 hb1 hp1 h1
                        subst e2
                        have d0' : W4.cell? ad2 = some (.int .i64 (rd l' 0)) := d0
                        obtain ⟨r0, hr0⟩ : ∃ r0, r0 = rd l' 0 := ⟨_, rfl⟩
                        rw [← hr0] at d0 d0'
                        have H1 := Aside0.mk h1
                        have HR0 := Aside0.mk hr0
                        clear h1 hr0
                        by_cases h2 : r0 = (i : Int)
                        · have hb2 : (r0 == (i : Int)) = true := by simp [h2]
                          have HS2 : Aside0 (pickS (i : Int) bs (Eq4.s ⟨some ad2, c', l', bb⟩) = bb) := ⟨by unfold pickS; exact if_pos ⟨H1.out, HR0.out.symm.trans h2⟩⟩
                          clear h2
                          go_wp2_with fail
                          go_round
                          case rel => exact ⟨k + 1, by omega, by go_num, by rw [HS1.out, HS2.out]⟩
                          case measure => simp [intOf]; omega
                        · have hb2 : (r0 == (i : Int)) = false := by simp [h2]
                          have HS2 : Aside0 (pickS (i : Int) bs (Eq4.s ⟨some ad2, c', l', bb⟩) = bs) := ⟨by unfold pickS; exact if_neg (fun h => h2 (HR0.out.trans h.2))⟩
                          clear h2
                          go_wp2_with fail
                          go_round
                          case rel => exact ⟨k + 1, by omega, by go_num, by rw [HS1.out, HS2.out]⟩
                          case measure => simp [intOf]; omega
                      · have hb1 : ((x.l.length : Int) == 1) = false := by simp; omega
                        have HS2 : Aside0 (pickS (i : Int) bs x.s = bs) := ⟨by unfold pickS; exact if_neg (fun h => h1 h.1)⟩
                        clear h1
                        go_wp2_with fail
                        go_round
                        case rel => exact ⟨k + 1, by omega, by go_num, by rw [HS1.out, HS2.out]⟩
                        case measure => simp [intOf]; omega
                    · obtain rfl : k = tL.length := by omega
                      have HP : Aside0 (((tL.take tL.length).map Eq4.s).foldl (pickS (i : Int)) ⟨#[]⟩ = pickB (tL.map Eq4.s) (i : Int)) := ⟨by rw [List.take_length]; rfl⟩
                      rw [HP.out]
                      obtain ⟨pb, hpb⟩ : ∃ pb, pb = pickB (tL.map Eq4.s) (i : Int) := ⟨_, rfl⟩
                      rw [← hpb]
                      have HOS1 : Aside0 (outs ++ [pb] = (List.range (i + 1)).map (fun i : Nat => pickB (tL.map Eq4.s) (i : Int))) := ⟨by rw [List.range_succ, List.map_append, ← HOS.out, hpb]; rfl⟩
                      clear hpb HP
                      go_wp2_with ((with_reducible refine gate_builtin (b := .append) (xs := #[.tmp 121, .tmp 123]) rfl ?_); at_builtin; refine Kd.R_append Kd.string (w0 := W3) W3.heap.size rfl (.tmp 121) (.tmp 123) 25 9 (.string ⟨#[]⟩) 16 rfl Try.underlying25 info9 rfl (by decide) (by omega) (.slice A13 outs.length c13) outs pb [.string pb] (fun _ => True) (fun _ => False) rfl rfl rfl (fun _ hk => hk.elim) (fun _ _ => trivial) HO.out HB.out HB.out.size (by have := HOL.out; omega) ?_; intro v7 w7 hr7 hb7 hg7 hat7; have H7 := Aside0.mk hr7; have H8 := Aside0.mk hb7; clear hr7 hb7 hg7 hat7)
                      go_roundw
                      case rel => exact ⟨i + 1, by omega, by go_num, H8, ⟨by rw [← HOS1.out]; exact H7.out⟩⟩
                      case measure => simp [intOf]; omega
                · obtain rfl : i = n := by omega
                  go_wp2_with fail
                  go_ret2
                  rw [HSF.out]
                  exact ⟨_, rfl, Kd.R_lower HO.out HQ3.out.below.size, below_step HQ3.out.below HB.out⟩
/-- What it computes, as the print wants it. -/
def mosaicref12_Solve.f (a0 a1 : Int) (l2 : List S79) : Option (List ByteArray × Int) := if l2.length ≤ 400 then some (refSolveB a0 a1 (l2.map to41)) else none
theorem mosaicref12_Solve.calls (a0 a1 : Int) (A2 : Option Addr) (c2 : Nat) (l2 : List S79) (r1 : List ByteArray) (r2 : Int) (w : World) (hr : k79.C w A2 l2.length l2) (hc : l2.length ≤ c2) (h : mosaicref12_Solve.f a0 a1 l2 = some (r1, r2)) :
    Calls Try.prog 11 #[.int .i64 a0, .int .i64 a1, .slice A2 l2.length c2] w fun e w' => ∃ v0_ : Value, e = .returned (.tuple #[v0_, .int .i64 r2]) ∧ Kd.R Kd.string 9 w' w.heap.size (fun _ => True) v0_ r1 ∧ Below w.heap.size w w' := by
  unfold mosaicref12_Solve.f at h
  by_cases hl : l2.length ≤ 400
  · rw [if_pos hl] at h
    have h := Option.some.inj h
    have := refSolve_calls a0 a1 A2 c2 l2 w hr hl
    rw [h] at this
    exact this
  · rw [if_neg hl] at h; cases h
end Go.Proofs.Ytgcgnnblgimegaa.P
