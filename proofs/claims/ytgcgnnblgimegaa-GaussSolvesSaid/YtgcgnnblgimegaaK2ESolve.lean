/- What the claim on this statement wants of the text YtgcgnnblgimegaaESolve. Not trusted: Lean checks it. -/
import Derived.Test.YtgcgnnblgimegaaK2EEqns
namespace Go.Proofs.Ytgcgnnblgimegaa.P
open Go.RowKit Go.Proofs.YtgcgnnblgimegaaW.PrintWords Go.Proofs.YtgcgnnblgimegaaW.PrintLast Go.Proofs.YtgcgnnblgimegaaW.PrintMore
open Go.Proofs.Ytgcgnnblgimegaa.Red
set_option linter.unusedVariables false
set_option linter.unusedSimpArgs false
/-- Is a side's text other than bytes 0? -/
def nzB (zb : ByteArray) (s : Sd) : Bool := !(s.b.toList == zb.toList)
set_option maxHeartbeats 1000000 in
set_option maxRecDepth 100000 in
/-- Solve's function value. -/
theorem nz_calls (s : Sd) (gi : Nat) (size : Int) (zb : ByteArray) (hz : block_Zero.f size = some zb) (w : World) (hi : w.cell? ⟨gi, 0, none⟩ = some (.int .i64 size)) :
    Calls Try.prog 38 #[sdV s, .pointer (some ⟨gi, 0, none⟩)] w fun e w' => e = .returned (.bool (nzB zb s)) ∧ Below w.heap.size w w' := by
  have HC := Aside0.mk (fun w => block_Zero.calls size zb w hz)
  unfold sdV
  have hlt : gi < w.heap.size := World.block_lt_of_cell? w _ hi
  have hne : ¬ w.heap.size = gi := by omega
  have hne' : ¬ gi = w.heap.size := by omega
  clear hz
  go_enter Try.func38, Try.ntmps38
  go_wp2_with fail
  have c3 : (w.alloc (.cells #[.int .u64 (wd s.x 0), .int .u64 (wd s.x 1), .int .u64 (wd s.x 2), .string s.b] 74)).cell? ⟨w.heap.size, 3, none⟩ = some (.string s.b) := by simp only [World.cell?, heap_alloc_new]; rfl
  have ci := (World.cell?_alloc_lt w (.cells #[.int .u64 (wd s.x 0), .int .u64 (wd s.x 1), .int .u64 (wd s.x 2), .string s.b] 74) ⟨gi, 0, none⟩ hlt).trans hi
  have HB0 := Aside0.mk (below_alloc (Below.refl w.heap.size w) (.cells #[.int .u64 (wd s.x 0), .int .u64 (wd s.x 1), .int .u64 (wd s.x 2), .string s.b] 74))
  generalize w.alloc (.cells #[.int .u64 (wd s.x 0), .int .u64 (wd s.x 1), .int .u64 (wd s.x 2), .string s.b] 74) = W at c3 ci HB0 ⊢
  go_region_law (go_simp; go_at_call 21; refine (HC.out _).mono ?_; rintro e w2 ⟨rfl, hb2⟩; have hb3 := below_step (below_drew1 (Below.refl _ W)) hb2; have c3' := pw_cell_below hb3 c3; have ci' := pw_cell_below hb3 ci; have HB1 := Aside0.mk (below_step HB0.out hb3); clear hb2 hb3)
  all_goals
    go_wp2_with fail
    go_ret
    exact ⟨by unfold nzB; rfl, HB1.out⟩
/-- The place of the first side whose text is other than bytes 0; -1: none is. -/
def zidx (zb : ByteArray) (l : List Sd) : Int := match l.findIdx? (nzB zb) with | none => -1 | some k => k
theorem zidx_some {zb : ByteArray} {l : List Sd} {k : Nat} (hk : k < l.length) (h : ∀ j, j < k → nzB zb (l.getD j zSd) = false) (hb : nzB zb (l.getD k zSd) = true) : zidx zb l = (k : Int) := by
  have : l.findIdx? (nzB zb) = some k := by
    rw [List.findIdx?_eq_some_iff_getElem]
    refine ⟨hk, ?_, fun j hj => ?_⟩
    · simpa [List.getD_eq_getElem?_getD, hk] using hb
    · have := h j hj
      rw [List.getD_eq_getElem?_getD, List.getElem?_eq_getElem (by omega)] at this
      simpa using this
  unfold zidx
  rw [this]
theorem zidx_none {zb : ByteArray} {l : List Sd} (h : ∀ j, j < l.length → nzB zb (l.getD j zSd) = false) : zidx zb l = -1 := by
  have : l.findIdx? (nzB zb) = none := by
    rw [List.findIdx?_eq_none_iff]
    intro s hs
    obtain ⟨j, hj, rfl⟩ := List.getElem_of_mem hs
    have := h j hj
    rw [List.getD_eq_getElem?_getD, List.getElem?_eq_getElem hj] at this
    simpa using this
  unfold zidx
  rw [this]
theorem zidx_any (zb : ByteArray) (l : List Sd) : decide (0 ≤ zidx zb l) = l.any (nzB zb) := by
  unfold zidx
  cases h : l.findIdx? (nzB zb) with
  | none =>
    have := List.findIdx?_eq_none_iff.1 h
    rw [List.any_eq_false.2 (fun x hx => by simpa using this x hx)]
    rfl
  | some k =>
    obtain ⟨hk, hb, _⟩ := List.findIdx?_eq_some_iff_getElem.1 h
    rw [List.any_eq_true.2 ⟨_, List.getElem_mem hk, hb⟩]
    exact decide_eq_true (by simp)
set_option maxHeartbeats 1000000 in
set_option maxRecDepth 100000 in
theorem zidx_calls (gi : Nat) (size : Int) (zb : ByteArray) (hz : block_Zero.f size = some zb) (A0 : Option Addr) (c0 : Nat) (l0 : List Sd) (w : World) (hi : w.cell? ⟨gi, 0, none⟩ = some (.int .i64 size))
    (hr0 : kSd.C w A0 l0.length l0) :
    Calls Try.prog 74 #[.slice A0 l0.length c0, .func (.func 38) #[] #[.pointer (some ⟨gi, 0, none⟩)]] w fun e w' => e = .returned (.int .i64 (zidx zb l0)) ∧ Below w.heap.size w w' := by
  have HR0 := Aside0.mk hr0
  have HI := Aside0.mk hi
  have HZ := Aside0.mk hz
  have hmax : l0.length ≤ 9223372036854775807 := hr0.2.1
  clear hr0 hi hz
  go_enter Try.func74, Try.ntmps74
  go_wp2_with fail
  go_loopw [8] (fun v8 wr => ∃ k : Nat, k ≤ l0.length ∧ v8 = .int .i64 k ∧ Aside0 (Below w.heap.size w wr) ∧ Aside0 (∀ j, j < k → nzB zb (l0.getD j zSd) = false)) (fun v8 _ => l0.length - (intOf v8).toNat)
  case atStart => exact ⟨0, Nat.zero_le _, rfl, ⟨Below.refl _ _⟩, ⟨fun j hj => absurd hj (by omega)⟩⟩
  case round =>
    obtain ⟨k, hk, rfl, HB, HN⟩ := hrel
    by_cases hlt : k < l0.length
    · obtain ⟨ad, e, c0, c1, c2, c3⟩ := at_sd (Kd.C_below HR0.out HB.out) (k : Int) (by omega) (by omega)
      cases e
      rw [Int.toNat_natCast] at c0 c1 c2 c3
      obtain ⟨s, hs⟩ : ∃ s, s = l0.getD k zSd := ⟨_, rfl⟩
      rw [← hs] at c0 c1 c2 c3
      have HC := Aside0.mk (nz_calls s gi size zb HZ.out wr (pw_cell_below HB.out HI.out))
      have HS := Aside0.mk hs
      have hlt' : (k : Int) < (l0.length : Int) := by omega
      clear hs
      cases hb : nzB zb s with
      | true =>
        rw [hb] at HC
        have HF := Aside0.mk (zidx_some hlt HN.out (by rw [← HS.out]; exact hb))
        clear hb
        go_wp2_with fail
        refine HC.out.mono ?_
        rintro e w1 ⟨rfl, hb1⟩
        have HB1 := Aside0.mk (below_step HB.out hb1)
        clear hb1 c0 c1 c2 c3
        go_wp2_with fail
        go_ret
        exact ⟨by rw [HF.out]; rfl, HB1.out⟩
      | false =>
        rw [hb] at HC
        have HF : Aside0 (∀ j, j < k + 1 → nzB zb (l0.getD j zSd) = false) := ⟨fun j hj => by
          by_cases e : j = k
          · subst e; rw [← HS.out]; exact hb
          · exact HN.out j (by omega)⟩
        clear hb
        go_wp2_with fail
        refine HC.out.mono ?_
        rintro e w1 ⟨rfl, hb1⟩
        have HB1 := Aside0.mk (below_step HB.out hb1)
        clear hb1 c0 c1 c2 c3
        go_wp2_with fail
        go_roundw
        case rel => exact ⟨k + 1, by omega, by go_num, HB1, HF⟩
        case measure => simp [intOf]; omega
    · have HF := Aside0.mk (zidx_none (zb := zb) (l := l0) (fun j hj => HN.out j (by omega)))
      go_wp2_with fail
      go_ret
      exact ⟨by rw [HF.out]; rfl, HB.out⟩
set_option maxHeartbeats 1000000 in
set_option maxRecDepth 100000 in
theorem zany_calls (gi : Nat) (size : Int) (zb : ByteArray) (hz : block_Zero.f size = some zb) (A0 : Option Addr) (c0 : Nat) (l0 : List Sd) (w : World) (hi : w.cell? ⟨gi, 0, none⟩ = some (.int .i64 size))
    (hr0 : kSd.C w A0 l0.length l0) :
    Calls Try.prog 37 #[.slice A0 l0.length c0, .func (.func 38) #[] #[.pointer (some ⟨gi, 0, none⟩)]] w fun e w' => e = .returned (.bool (l0.any (nzB zb))) ∧ Below w.heap.size w w' := by
  have HC := Aside0.mk (zidx_calls gi size zb hz A0 c0 l0 w hi hr0)
  have HA := Aside0.mk (zidx_any zb l0)
  clear hr0 hi hz
  obtain ⟨m, hm⟩ : ∃ m, m = zidx zb l0 := ⟨_, rfl⟩
  rw [← hm] at HC HA
  clear hm
  go_enter Try.func37, Try.ntmps37
  go_wp2_with fail
  refine HC.out.mono ?_
  rintro e w' ⟨rfl, hd⟩
  have HD := Aside0.mk hd
  clear hd HC
  go_wp2_with fail
  go_ret
  exact ⟨by rw [← HA.out]; rfl, HD.out⟩
theorem eqB_parts {n size : Int} {l : List S41} (h : eqB n size l = true) : (0 ≤ n ∧ n ≤ 160) ∧ (1 ≤ size ∧ size ≤ 64) ∧ (∀ x ∈ l, (x.f1.size : Int) = size ∧ ∀ i ∈ x.f0, 0 ≤ i ∧ i < n) := by
  unfold eqB at h
  simp only [Bool.and_eq_true, List.all_eq_true, decide_eq_true_eq] at h
  obtain ⟨⟨h1, h2⟩, h3⟩ := h
  obtain ⟨p1, p2, p3, p4⟩ := may_parts h2
  refine ⟨⟨p1, p2⟩, h3, fun x hx => ⟨?_, p4 _ (List.mem_map_of_mem hx)⟩⟩
  have := h1 x hx
  unfold isB at this
  simp only [Bool.and_eq_true, decide_eq_true_eq, beq_iff_eq] at this
  exact this.2
theorem lst_mem {x : Nat} {i : Int} (h : i ∈ lst x) : 0 ≤ i ∧ x.testBit i.toNat = true := by
  unfold lst pre at h
  obtain ⟨j, hj, rfl⟩ := List.mem_map.1 h
  exact ⟨by simp, by simpa using (List.mem_filter.1 hj).2⟩
theorem lst_one {x : Nat} (h : (lst x).length = 1) : rd (lst x) 0 ∈ lst x := by
  obtain ⟨a, ha⟩ := List.length_eq_one_iff.1 h
  rw [ha]
  simp [rd]
theorem run_high {n sz : Nat} {l : List Sd} (hs : ∀ s ∈ l, s.b.size = sz) (hx : ∀ s ∈ l, ∀ j, n ≤ j → s.x.testBit j = false) : ∀ s ∈ (Red.run n 0 l []).2, ∀ j, n ≤ j → s.x.testBit j = false :=
  fun s h => (run_done hs hx).2.high s (List.mem_append_right _ h)
/-- What a side that has one number gives. -/
def putO (o : List ByteArray) (x : Sd) : List ByteArray := if (lst x.x).length = 1 then o.set (rd (lst x.x) 0).toNat x.b else o
def redOf (n : Nat) (l : List S41) : List Sd × List Sd := Red.run n 0 (l.map eqSide) []
def solveB (a0 a1 : Int) (l2 : List S41) : List ByteArray × Int :=
  if eqB a0 a1 l2 then
    if (redOf a0.toNat l2).1.any (nzB (zeroB a1.toNat)) then ([], 9)
    else ((redOf a0.toNat l2).2.foldl putO (List.replicate a0.toNat ⟨#[]⟩), 0)
  else ([], 1)
def gauss_Solve.f (a0 a1 : Int) (l2 : List S41) : Option (List ByteArray × Int) := if l2.length ≤ 400 then some (solveB a0 a1 l2) else none
theorem putO_length (o : List ByteArray) (x : Sd) : (putO o x).length = o.length := by
  unfold putO
  split
  · rw [List.length_set]
  · rfl
theorem outs_length (l : List Sd) (o : List ByteArray) : (l.foldl putO o).length = o.length := by
  induction l generalizing o with
  | nil => rfl
  | cons x l ih => rw [List.foldl_cons, ih, putO_length]
set_option maxHeartbeats 1000000 in
set_option maxRecDepth 100000 in
theorem gauss_Solve.calls (a0 a1 : Int) (A2 : Option Addr) (c2 : Nat) (l2 : List S41) (r1 : List ByteArray) (r2 : Int) (w : World) (hr : k41.C w A2 l2.length l2) (hc : l2.length ≤ c2) (h : gauss_Solve.f a0 a1 l2 = some (r1, r2)) :
    Calls Try.prog 10 #[.int .i64 a0, .int .i64 a1, .slice A2 l2.length c2] w fun e w' => ∃ v0_ : Value, e = .returned (.tuple #[v0_, .int .i64 r2]) ∧ Kd.R Kd.string 9 w' w.heap.size (fun _ => True) v0_ r1 ∧ Below w.heap.size w w' := by
  unfold gauss_Solve.f at h
  by_cases hl : l2.length ≤ 400
  case neg => rw [if_neg hl] at h; cases h
  rw [if_pos hl] at h
  have h := Option.some.inj h
  have HQ := Aside0.mk (eqns_calls a0 a1 A2 c2 l2 (w.alloc (.cells #[.int .i64 a1] 3)) (Kd.C_alloc hr _) hl)
  have HB0 := Aside0.mk (below_alloc (Below.refl w.heap.size w) (.cells #[.int .i64 a1] 3))
  have hci : (w.alloc (.cells #[.int .i64 a1] 3)).cell? ⟨w.heap.size, 0, none⟩ = some (.int .i64 a1) := by simp only [World.cell?, heap_alloc_new]; rfl
  unfold solveB at h
  cases he : eqB a0 a1 l2 with
  | false =>
    rw [he, if_neg (by decide)] at h
    rw [he] at HQ
    obtain ⟨rfl, rfl⟩ : [] = r1 ∧ (1 : Int) = r2 := by simpa using h
    clear h he hl hr hc
    go_enter Try.func10, Try.ntmps10
    go_wp2_with fail
    refine HQ.out.mono ?_
    rintro e w1 ⟨v1, rfl, hr1, hb1⟩
    have HB := Aside0.mk (below_step HB0.out hb1)
    clear hb1 HQ hr1
    go_wp2_with fail
    go_ret2
    exact ⟨_, rfl, Kd.R_nil _ _ _ _ _, HB.out⟩
  | true =>
    rw [he, if_pos rfl] at h
    rw [he] at HQ
    obtain ⟨⟨p1, p2⟩, p3, p4⟩ := eqB_parts he
    have hE : eqL a0 a1 l2 = l2.map eqSide := by unfold eqL; rw [he]; rfl
    rw [hE] at HQ
    obtain ⟨n, rfl⟩ : ∃ n : Nat, a0 = (n : Int) := ⟨a0.toNat, by omega⟩
    have HN : Aside0 (n ≤ 160) := ⟨by omega⟩
    have HZ := Aside0.mk (show block_Zero.f a1 = some (zeroB a1.toNat) by unfold block_Zero.f; rw [if_pos p3])
    have HSZ : Aside0 (∀ s ∈ l2.map eqSide, s.b.size = a1.toNat) := ⟨fun s hs => by
      obtain ⟨x, hx, rfl⟩ := List.mem_map.1 hs
      have := (p4 x hx).1
      show x.f1.size = _
      omega⟩
    have HSX : Aside0 (∀ s ∈ l2.map eqSide, ∀ j, n ≤ j → s.x.testBit j = false) := ⟨fun s hs j hj => by
      obtain ⟨x, hx, rfl⟩ := List.mem_map.1 hs
      exact ofL_high (p4 x hx).2 j hj⟩
    have HA1 : Aside0 (a1.toNat ≤ 64) := ⟨by omega⟩
    have HL := Aside0.mk hl
    obtain ⟨l0, hl0⟩ : ∃ l0, l0 = l2.map eqSide := ⟨_, rfl⟩
    have HLE : Aside0 (l0.length = l2.length) := ⟨by rw [hl0, List.length_map]⟩
    have hred : redOf n l2 = Red.run n 0 l0 [] := by rw [hl0]; rfl
    rw [Int.toNat_natCast, hred] at h
    rw [← hl0] at HQ HSZ HSX
    clear he hl hr hc p1 p2 p3 p4 hE hl0 hred
    have HH := Aside0.mk h
    clear h
    go_enter Try.func10, Try.ntmps10
    go_wp2_with fail
    refine HQ.out.mono ?_
    rintro e w1 ⟨v1, rfl, hr1, hb1⟩
    have HB1 := Aside0.mk (below_step HB0.out hb1)
    have hci1 := pw_cell_below hb1 hci
    obtain ⟨A3, c3, e3, hl3, hC3⟩ := Kd.R_reads hr1
    subst e3
    have HRED := Aside0.mk (reduce_calls n HN.out a1.toNat (by have := HA1.out; omega) A3 c3 l0 w1 hC3 (by have := HL.out; have := HLE.out; omega) HSZ.out HSX.out)
    clear hb1 HQ hr1 hl3 hC3 HB0 hci
    go_wp2_with fail
    refine HRED.out.mono ?_
    rintro e w2 ⟨v3, v4, rfl, hr3, hr4, hb2⟩
    have HB2 := Aside0.mk (below_step HB1.out hb2)
    have hci2 := pw_cell_below hb2 hci1
    obtain ⟨L, hL⟩ : ∃ L, L = (Red.run n 0 l0 []).2 := ⟨_, rfl⟩
    obtain ⟨E, hE⟩ : ∃ E, E = (Red.run n 0 l0 []).1 := ⟨_, rfl⟩
    rw [← hL] at hr3
    rw [← hE] at hr4
    rw [← hL, ← hE] at HH
    have HLL : Aside0 (L.length ≤ 400) := ⟨by
      have := run_len n a1.toNat l0 HSZ.out n 0 l0 [] (by simp)
      rw [← hL] at this
      have h2 := HL.out
      have h3 := HLE.out
      omega⟩
    obtain ⟨A4, c4, e4, hl4, hC4⟩ := Kd.R_reads hr4
    subst e4
    obtain ⟨A5, c5, e5, hl5, hC5⟩ := Kd.R_reads hr3
    subst e5
    have HLX : Aside0 (∀ s ∈ L, ∀ j, n ≤ j → s.x.testBit j = false) := ⟨by rw [hL]; exact run_high HSZ.out HSX.out⟩
    have HANY := Aside0.mk (zany_calls w.heap.size a1 (zeroB a1.toNat) HZ.out A4 c4 E w2 hci2 hC4)
    have HC5 := Aside0.mk hC5
    clear hr3 hr4 hb2 HRED hL hE HB1 hci1 hl4 hC4 hl5 hC5 HSZ HSX HLE HL
    cases hany : E.any (nzB (zeroB a1.toNat)) with
    | true =>
      rw [hany] at HANY HH
      obtain ⟨rfl, rfl⟩ : [] = r1 ∧ (9 : Int) = r2 := by simpa using HH.out
      clear hany HH
      go_wp2_with fail
      refine HANY.out.mono ?_
      rintro e w3 ⟨rfl, hb3⟩
      have HB3 := Aside0.mk (below_step HB2.out hb3)
      clear hb3 HANY
      go_wp2_with fail
      go_ret2
      exact ⟨_, rfl, Kd.R_nil _ _ _ _ _, HB3.out⟩
    | false =>
      rw [hany] at HANY HH
      obtain ⟨hr1, rfl⟩ : L.foldl putO (List.replicate n ⟨#[]⟩) = r1 ∧ (0 : Int) = r2 := by simpa using HH.out
      have HR1 := Aside0.mk hr1
      clear hany HH hr1
      go_wp2_with fail
      refine HANY.out.mono ?_
      rintro e w3 ⟨rfl, hb3⟩
      have HB3 := Aside0.mk (below_step HB2.out hb3)
      have HC3 := Aside0.mk (Kd.C_below HC5.out hb3)
      clear hb3 HANY HC5 HB2
      go_wp2_with ((with_reducible refine gate_dst (N := 35) rfl ?_); refine Kd.R_make Kd.string (w0 := w3) w3.heap.size 9 rfl (N := 35) rfl 25 _ _ rfl (n : Int) rfl rfl Try.underlying25 (.string ⟨#[]⟩) 16 info9 rfl (by decide) (by omega) ⟨#[]⟩ (ok := fun _ => True) (okp := fun _ => True) rfl (fun _ hk => hk) trivial (by omega) (by have := HN.out; omega) (Below.refl _ _) (Nat.le_refl _) ?_; intro v5 w5 ho5 hb5 hg_ hnew_; clear hg_ hnew_; have HO5 := Aside0.mk ho5; have HB5 := Aside0.mk hb5; clear ho5 hb5)
      have hl3 : (L.length : Int) ≤ 400 := by have := HLL.out; omega
      clear hci2
      go_loopw [38] (fun v38 wr => ∃ k : Nat, k ≤ L.length ∧ v38 = .int .i64 k ∧ Aside0 (Kd.R Kd.string 9 wr w3.heap.size (fun _ => True) v5 ((L.take k).foldl putO (List.replicate n ⟨#[]⟩))) ∧ Aside0 (Below w3.heap.size w3 wr)) (fun v38 _ => L.length - (intOf v38).toNat)
      case atStart => exact ⟨0, by omega, rfl, by rw [Int.toNat_natCast] at HO5; exact HO5, HB5⟩
      case round =>
        obtain ⟨k, hk, rfl, HO, HB⟩ := hrel
        by_cases hlt : k < L.length
        · obtain ⟨ad, e, c0, c1', c2', c3'⟩ := at_sd (Kd.C_below HC3.out HB.out) (k : Int) (by omega) (by omega)
          cases e
          rw [Int.toNat_natCast] at c0 c1' c2' c3'
          obtain ⟨s, hs⟩ : ∃ s, s = L.getD k zSd := ⟨_, rfl⟩
          rw [← hs] at c0 c1' c2' c3'
          have HT : Aside0 ((L.take (k + 1)).foldl putO (List.replicate n ⟨#[]⟩) = putO ((L.take k).foldl putO (List.replicate n ⟨#[]⟩)) s) := ⟨by
            rw [List.take_succ_eq_append_getElem hlt, List.foldl_append, hs]
            simp [List.getD_eq_getElem?_getD, hlt]⟩
          have HSX := HLX.out s (by rw [hs]; simp [List.getD_eq_getElem?_getD, hlt])
          obtain ⟨o, ho⟩ : ∃ o, o = (L.take k).foldl putO (List.replicate n ⟨#[]⟩) := ⟨_, rfl⟩
          have hol : o.length = n := by rw [ho, outs_length, List.length_replicate]
          rw [← ho] at HT HO
          have HLS := Aside0.mk (list_calls s.x (wr.alloc (.cells #[.int .u64 (wd s.x 0), .int .u64 (wd s.x 1), .int .u64 (wd s.x 2), .string s.b] 74)))
          unfold rowV at HLS
          have hlt' : (k : Int) < (L.length : Int) := by omega
          clear hs ho
          by_cases h1 : (lst s.x).length = 1
          · obtain ⟨m, hm⟩ : ∃ m, m = rd (lst s.x) 0 := ⟨_, rfl⟩
            have hm1 := lst_mem (lst_one h1)
            rw [← hm] at hm1
            have hm2 : m.toNat < n := Nat.lt_of_not_le fun h => by rw [HSX _ h] at hm1; exact absurd hm1.2 (by decide)
            have HP : Aside0 (putO o s = o.set m.toNat s.b) := ⟨by unfold putO; rw [if_pos h1, hm]⟩
            go_wp2_with fail
            refine HLS.out.mono ?_
            rintro e w4 ⟨v6, rfl, hr6, hb6⟩
            obtain ⟨A6, c6, e6⟩ := Kd.R_slice hr6
            rw [h1] at e6
            subst e6
            obtain ⟨ad6, e6, d0⟩ := Kd.at_int (Kd.R_reads' hr6).2.2 (0 : Int) (by omega) (by omega)
            subst e6
            obtain ⟨g6, rfl⟩ := Kd.R_head hr6
            rw [← hm] at d0
            have d0 : w4.cell? ⟨g6, 0, none⟩ = some (.int .i64 m) := d0
            have hb7 := below_step (below_alloc (Below.refl _ wr) (.cells #[.int .u64 (wd s.x 0), .int .u64 (wd s.x 1), .int .u64 (wd s.x 2), .string s.b] 74)) hb6
            have HB1 := Aside0.mk (below_step HB.out hb7)
            have hq : (wr.alloc (.cells #[.int .u64 (wd s.x 0), .int .u64 (wd s.x 1), .int .u64 (wd s.x 2), .string s.b] 74)).cell? ⟨wr.heap.size, 3, none⟩ = some (.string s.b) := by simp only [World.cell?, heap_alloc_new]; rfl
            have d1 := pw_cell_below hb6 hq
            have HO1 := Kd.R_below HO.out hb7
            obtain ⟨g, c7, e7, hg0, hg1, _⟩ := Kd.R_form HO1 (by omega)
            rw [hol] at e7
            subst e7
            obtain ⟨x0, x1⟩ := Kd.R_celln ⟨#[]⟩ HO1 m hm1.1 (by omega)
            have HP1 := Aside0.mk (Kd.R_putg (Kd.R_below HO1 (below_drew1 (Below.refl _ w4))) m s.b)
            rw [← HP.out, ← HT.out] at HP1
            have HG := Aside0.mk hg0
            have hm3 : m < (n : Int) := by omega
            have hm4 := hm1.1
            clear hr6 hb6 hb7 hq HO1 hm hm1 hm2 HLS HSX c0 c1' c2' c3' hg0 hg1 HO HB h1
            go_wp2_with fail
            refine still_tail 7 (by kernel_rfl) (by kernel_rfl) ?_
            simp only [List.take_succ_cons, List.take_zero, List.drop_succ_cons, List.drop_zero]
            repeat still_step
            refine wpStill_nil ?_
            go_wp2_with fail
            go_roundw
            case rel => exact ⟨k + 1, by omega, by go_num, ⟨HP1.out.1⟩, ⟨HB1.out.grown (World.grownBy.trans (b := w4.drew) ⟨rfl, rfl, rfl, Nat.le_refl _, fun _ _ _ => rfl⟩ HP1.out.2) HB1.out.size (fun k hk => by cases hk; exact HG.out)⟩⟩
            case measure => simp [intOf]; omega
          · have h2 : ¬ ((lst s.x).length : Int) = 1 := by omega
            have HP : Aside0 (putO o s = o) := ⟨by unfold putO; rw [if_neg h1]⟩
            go_wp2_with fail
            refine HLS.out.mono ?_
            rintro e w4 ⟨v6, rfl, hr6, hb6⟩
            obtain ⟨A6, c6, e6⟩ := Kd.R_slice hr6
            subst e6
            have hb7 := below_step (below_alloc (Below.refl _ wr) (.cells #[.int .u64 (wd s.x 0), .int .u64 (wd s.x 1), .int .u64 (wd s.x 2), .string s.b] 74)) hb6
            have HB1 := Aside0.mk (below_step HB.out hb7)
            have HO1 := Aside0.mk (Kd.R_below HO.out hb7)
            rw [← HP.out, ← HT.out] at HO1
            clear hr6 hb6 hb7 HLS HSX c0 c1' c2' c3' HO HB
            go_wp2_with fail
            go_roundw
            case rel => exact ⟨k + 1, by omega, by go_num, HO1, HB1⟩
            case measure => simp [intOf]; omega
        · obtain rfl : k = L.length := by omega
          go_wp2_with fail
          go_ret2
          have := HO.out
          rw [List.take_length, HR1.out] at this
          exact ⟨_, rfl, Kd.R_lower this (below_size HB3.out), below_step HB3.out HB.out⟩
end Go.Proofs.Ytgcgnnblgimegaa.P
