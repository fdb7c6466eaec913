/- What the claim on this statement wants of the text YtgcgnnblgimegaaEGReduce. Not trusted: Lean checks it. -/
import Derived.Test.YtgcgnnblgimegaaK2ESides
namespace Go.Proofs.Ytgcgnnblgimegaa.P
open Go.RowKit Go.Proofs.YtgcgnnblgimegaaW.PrintWords Go.Proofs.YtgcgnnblgimegaaW.PrintLast Go.Proofs.YtgcgnnblgimegaaW.PrintMore
open Go.Proofs.Ytgcgnnblgimegaa.Red
set_option linter.unusedVariables false
set_option linter.unusedSimpArgs false
theorem kSd_ne (t : Nat) (h : t ≠ 74) : ∀ q, q ∈ 74 :: kSd.E → q ≠ t := fun q hq => by
  rcases List.mem_cons.1 hq with rfl | hq
  · exact fun e => h e.symm
  · cases hq
theorem rd_mem (l : List Int) (i : Int) (h : i ∈ l) : ∃ j : Nat, j < l.length ∧ rd l (j : Int) = i := by
  obtain ⟨j, hj, rfl⟩ := List.getElem_of_mem h
  exact ⟨j, hj, by simp [rd, hj]⟩
theorem mayRow_in {n : Int} {l : List Int} (h : mayRowB n l = true) : ∀ i ∈ l, 0 ≤ i ∧ i < n := by
  intro i hi
  obtain ⟨j, hj, rfl⟩ := rd_mem l i hi
  have := (allFrom_iff (mayAt n l) l.length 0).1 h j (Nat.zero_le _) (by omega)
  simp only [mayAt, Bool.and_eq_true, decide_eq_true_eq] at this
  exact this.1
theorem may_parts {n : Int} {rows : List (List Int)} (h : mayB n rows = true) : 0 ≤ n ∧ n ≤ 160 ∧ rows.length ≤ 400 ∧ ∀ r ∈ rows, ∀ i ∈ r, 0 ≤ i ∧ i < n := by
  unfold mayB at h
  simp only [Bool.and_eq_true, decide_eq_true_eq, List.all_eq_true] at h
  exact ⟨h.1.1.1, h.1.1.2, h.1.2, fun r hr => mayRow_in (h.2 r hr)⟩
theorem ofL_high {n : Nat} {r : List Int} (h : ∀ i ∈ r, 0 ≤ i ∧ i < (n : Int)) (j : Nat) (hj : n ≤ j) : (ofL r).testBit j = false := by
  rw [ofL_bit]
  rw [List.any_eq_false]
  intro i hi
  have := h i hi
  simp
  omega
/-- What elimination of rows leaves. -/
def leftOf (n : Int) (rows : List (List Int)) : List Sd := (Red.run n.toNat 0 (rows.map sideOf) []).2
theorem leftOf_nat (n : Nat) (rows : List (List Int)) : leftOf (n : Int) rows = (Red.run n 0 (rows.map sideOf) []).2 := by
  unfold leftOf
  rw [Int.toNat_natCast]
def gauss_Reduce.f (a0 : Int) (l1 : List (List Int)) : Option (List (List Int) × Int) := some (if mayB a0 l1 then ((leftOf a0 l1).map (fun s => lst s.x), 0) else ([], 1))
theorem run_len (n sz : Nat) (l : List Sd) (h : ∀ s ∈ l, s.b.size = sz) : ∀ (d i : Nat) (l' o' : List Sd), l'.length + o'.length ≤ l.length → (Red.run d i l' o').1.length + (Red.run d i l' o').2.length ≤ l.length
  | 0, _, _, _, hl => hl
  | d + 1, i, l', o', hl => by
    rw [run_succ]
    refine run_len n sz l h d (i + 1) _ _ ?_
    rcases fidx_cases i l' with hf | ⟨k, hk, _, hs⟩
    · rw [step_none hf]; exact hl
    · rw [hs o']
      dsimp only
      rw [clr_length, List.length_append, clr_length, List.length_eraseIdx_of_lt hk]
      simp
      omega
set_option maxHeartbeats 1000000 in
set_option maxRecDepth 100000 in
theorem gauss_Reduce.calls (a0 : Int) (A1 : Option Addr) (c1 : Nat) (l1 : List (List Int)) (r1 : List (List Int)) (r2 : Int) (w : World) (hr1 : Kd.C (Kd.slice 3 (Kd.int .i64)) w A1 l1.length l1) (hc1 : l1.length ≤ c1) (h : gauss_Reduce.f a0 l1 = some (r1, r2)) :
    Calls Try.prog 32 #[.int .i64 a0, .slice A1 l1.length c1] w fun e w' => ∃ v0_ : Value, e = .returned (.tuple #[v0_, .int .i64 r2]) ∧ Kd.S (Kd.slice 3 (Kd.int .i64)) 38 w' w.heap.size (fun _ => True) v0_ r1 ∧ Below w.heap.size w w' := by
  have h := Option.some.inj h
  have HM := Aside0.mk (gauss_May.calls a0 A1 c1 l1 (mayB a0 l1) w hr1 hc1 rfl)
  have HR1 := Aside0.mk hr1
  clear hr1 hc1
  cases hm : mayB a0 l1 with
  | false =>
    rw [hm, if_neg (by decide)] at h
    rw [hm] at HM
    obtain ⟨rfl, rfl⟩ : [] = r1 ∧ (1 : Int) = r2 := by simpa using h
    clear h hm
    go_enter Try.func32, Try.ntmps32
    go_wp2_with fail
    refine HM.out.mono ?_
    rintro e w1 ⟨rfl, hb1⟩
    have HB := Aside0.mk hb1
    clear hb1 HM
    go_wp2_with fail
    go_ret2
    exact ⟨_, rfl, Kd.S_nil _ _ _ _ _, HB.out⟩
  | true =>
    rw [hm, if_pos rfl] at h
    rw [hm] at HM
    obtain ⟨p1, p2, p3, p4⟩ := may_parts hm
    obtain ⟨n, rfl⟩ : ∃ n : Nat, a0 = (n : Int) := ⟨a0.toNat, by omega⟩
    obtain ⟨hr1, rfl⟩ : (leftOf n l1).map (fun s => lst s.x) = r1 ∧ (0 : Int) = r2 := by simpa using h
    have HE := Aside0.mk hr1
    have HS := Aside0.mk (fun (w' : World) (hb : Below w.heap.size w w') => sides_calls A1 c1 l1 w' (Kd.C_below HR1.out hb) (by omega) (fun r hr i hi => by have := p4 r hr i hi; omega))
    have HN : Aside0 (n ≤ 160) := ⟨by omega⟩
    have H4 := Aside0.mk p4
    have HL : Aside0 (l1.length ≤ 400) := ⟨p3⟩
    clear h hm hr1 p1 p2 p3 p4
    go_enter Try.func32, Try.ntmps32
    go_wp2_with fail
    refine HM.out.mono ?_
    rintro e w1 ⟨rfl, hb1⟩
    have HB1 := Aside0.mk hb1
    clear hb1 HM
    go_wp2_with fail
    refine (HS.out w1 HB1.out).mono ?_
    rintro e w2 ⟨v2, rfl, hR2, hb2⟩
    obtain ⟨L0, hL0⟩ : ∃ L0, L0 = l1.map sideOf := ⟨_, rfl⟩
    rw [← hL0] at hR2
    obtain ⟨A2, c2, e2, hl2, hC2⟩ := Kd.R_reads hR2
    subst e2
    have HL0 := Aside0.mk hL0
    have HRED := Aside0.mk (reduce_calls n HN.out 0 (by decide) A2 c2 L0 w2 hC2 (by rw [hL0, List.length_map]; have := HL.out; omega) (fun s hs => by rw [hL0] at hs; obtain ⟨r, _, rfl⟩ := List.mem_map.1 hs; rfl)
      (fun s hs j hj => by rw [hL0] at hs; obtain ⟨r, hr, rfl⟩ := List.mem_map.1 hs; exact ofL_high (H4.out r hr) j hj))
    have HB2 := Aside0.mk (below_step HB1.out hb2)
    clear hR2 hb2 hl2 hC2 HS HB1 hL0
    go_wp2_with fail
    refine HRED.out.mono ?_
    rintro e w3 ⟨v3, v4, rfl, hr3, hr4, hb3⟩
    have HB3 := Aside0.mk (below_step HB2.out hb3)
    obtain ⟨L, hL⟩ : ∃ L, L = leftOf n l1 := ⟨_, rfl⟩
    have hr3' : kSd.R 74 w3 w2.heap.size (fun _ => True) v3 L := by rw [hL, leftOf_nat, ← HL0.out]; exact hr3
    have HLL : Aside0 (L.length ≤ 400) := ⟨by
      have := run_len n 0 (l1.map sideOf) (fun s hs => by obtain ⟨r, _, rfl⟩ := List.mem_map.1 hs; rfl) n 0 (l1.map sideOf) [] (by simp)
      rw [List.length_map] at this
      rw [hL, leftOf_nat]
      have h2 := HL.out
      omega⟩
    rw [← hL] at HE
    have HV3 := Aside0.mk (Kd.R_lower hr3' HB2.out.size)
    obtain ⟨A3, c3, e3⟩ := Kd.R_slice hr3'
    subst e3
    have hl3 : (L.length : Int) ≤ 400 := by have := HLL.out; omega
    clear hr3 hr4 hb3 hL hr3' HRED HB2
    go_wp2_with fail
    go_loopw [8, 24] (fun v8 v24 wr => ∃ k : Nat, k ≤ L.length ∧ v24 = .int .i64 k ∧ Aside0 (Kd.S (Kd.slice 3 (Kd.int .i64)) 38 wr w.heap.size (fun _ => True) v8 ((L.take k).map fun s => lst s.x)) ∧ Aside0 (Below w.heap.size w wr) ∧ Aside0 (kSd.R 74 wr w.heap.size (fun _ => True) (.slice A3 L.length c3) L)) (fun _ v24 _ => L.length - (intOf v24).toNat)
    case atStart => exact ⟨0, by omega, rfl, ⟨Kd.S_nil _ _ _ _ _⟩, HB3, HV3⟩
    case round =>
      obtain ⟨k, hk, rfl, HO, HB, HC⟩ := hrel
      by_cases hlt : k < L.length
      · obtain ⟨ad, e, c0, c1', c2', c3'⟩ := at_sd (Kd.R_reads' HC.out).2.2 (k : Int) (by omega) (by omega)
        cases e
        rw [Int.toNat_natCast] at c0 c1' c2' c3'
        obtain ⟨s, hs⟩ : ∃ s, s = L.getD k zSd := ⟨_, rfl⟩
        rw [← hs] at c0 c1' c2' c3'
        have HT : Aside0 ((L.take (k + 1)).map (fun s => lst s.x) = (L.take k).map (fun s => lst s.x) ++ [lst s.x]) := ⟨by
          rw [List.take_succ_eq_append_getElem hlt, List.map_append, hs]
          simp [List.getD_eq_getElem?_getD, hlt]⟩
        have HLS := Aside0.mk (list_calls s.x (wr.alloc (.cells #[.int .u64 (wd s.x 0), .int .u64 (wd s.x 1), .int .u64 (wd s.x 2), .string s.b] 74)))
        unfold rowV at HLS
        have hlt' : (k : Int) < (L.length : Int) := by omega
        clear hs
        go_wp2_with fail
        refine HLS.out.mono ?_
        rintro e w4 ⟨v5, rfl, hr5, hb5⟩
        obtain ⟨A5, c5, e5⟩ := Kd.R_slice hr5
        subst e5
        have hb6 := below_step (below_alloc (Below.refl _ wr) (.cells #[.int .u64 (wd s.x 0), .int .u64 (wd s.x 1), .int .u64 (wd s.x 2), .string s.b] 74)) hb5
        have hlt8 : ∀ k, u8.ownBlock = some k → k < wr.heap.size := fun k hk => Kd.R_lt (Kd.S_R HO.out) k hk
        have hsz5 : wr.heap.size ≤ (wr.alloc (.cells #[.int .u64 (wd s.x 0), .int .u64 (wd s.x 1), .int .u64 (wd s.x 2), .string s.b] 74)).heap.size := (below_alloc (Below.refl wr.heap.size wr) _).size
        have HR5 := Aside0.mk (Kd.R_lower (Kd.R_mono (ok' := fun k => wr.heap.size ≤ k ∧ some k ≠ u8.ownBlock) (Kd.R_bound hr5) (fun k hk => ⟨Nat.le_trans hsz5 hk.2.1, fun e => by have := hlt8 k e.symm; have := Nat.le_trans hsz5 hk.2.1; omega⟩)) (Nat.le_trans HB.out.size hsz5))
        have HO1 := Aside0.mk (Kd.S_below (Kd.S_mono (ok' := fun k => True ∧ ¬ (wr.heap.size ≤ k ∧ some k ≠ u8.ownBlock)) (Kd.S_bound HO.out) (fun k hk => ⟨trivial, fun h => by have := hk.2.2.1; omega⟩)) hb6)
        have HB1 := Aside0.mk (below_step HB.out hb6)
        have HC1 := Aside0.mk (Kd.R_below HC.out hb6)
        clear hb5 hb6 hr5 HLS HO HB HC c0 c1' c2' c3'
        go_wp2_with ((with_reducible refine gate_builtin (b := .append) (xs := #[.tmp 28, .tmp 32]) rfl ?_); at_builtin; refine Kd.S_append (Kd.slice 3 (Kd.int .i64)) (w0 := w) w.heap.size rfl (.tmp 28) (.tmp 32) 35 38 (.slice none 0 0) 24 rfl Try.underlying35 info38 rfl (by decide) (by omega) u8 ((L.take k).map fun s => lst s.x) (lst s.x) [.slice A5 (lst s.x).length c5] (fun _ => True) (fun k => wr.heap.size ≤ k ∧ some k ≠ u8.ownBlock) rfl rfl ⟨_, rfl, HR5.out⟩ (fun _ hk => ⟨trivial, hk.2⟩) (fun _ _ => trivial) HO1.out HB1.out HB1.out.size (by rw [List.length_map, List.length_take]; have := HLL.out; omega) ?_; intro v7 w7 hr7 hb7 hg7 hat7; have H7 := Aside0.mk hr7; have H8 := Aside0.mk hb7; have H9 := Aside0.mk (Kd.R_over HC1.out (Kd.S_R HO1.out) (kSd_ne 38 (by decide)) hg7); clear hr7 hb7 hg7 hat7 HC1 HO1 HB1 HR5)
        go_roundw
        case rel => exact ⟨k + 1, by omega, by go_num, by rw [HT.out]; exact H7, H8, H9⟩
        case measure => simp [intOf]; omega
      · obtain rfl : k = L.length := by omega
        go_wp2_with fail
        go_ret2
        refine ⟨_, rfl, ?_, HB.out⟩
        have := HO.out
        rw [List.take_length] at this
        rw [← HE.out]
        exact this
end Go.Proofs.Ytgcgnnblgimegaa.P
