/- What the claim on this statement wants of the text YtgcgnnblgimegaaEReduce. Not trusted: Lean checks it. -/
import Derived.Test.YtgcgnnblgimegaaK2EClone
namespace Go.Proofs.Ytgcgnnblgimegaa.P
open Go.RowKit Go.Proofs.YtgcgnnblgimegaaW.PrintWords Go.Proofs.YtgcgnnblgimegaaW.PrintLast Go.Proofs.YtgcgnnblgimegaaW.PrintMore
open Go.Proofs.Ytgcgnnblgimegaa.Red
set_option linter.unusedVariables false
set_option linter.unusedSimpArgs false
structure RdW (w W : World) (v1 v4 : Value) (l o : List Sd) : Prop where
  r1 : kSd.R 74 W w.heap.size (fun _ => True) v1 l
  r4 : kSd.R 74 W w.heap.size (fun _ => True) v4 o
  ne : ∀ k, v1.ownBlock = some k → v4.ownBlock ≠ some k
  hb : Below w.heap.size w W
theorem RdW.later {w W W1 : World} {v1 v4 : Value} {l o : List Sd} (h : RdW w W v1 v4 l o) (hb : Below W.heap.size W W1) : RdW w W1 v1 v4 l o :=
  ⟨Kd.R_below h.r1 hb, Kd.R_below h.r4 hb, h.ne, below_step h.hb hb⟩
theorem RdW.grown1 {w W W1 : World} {v1 v1' v4 : Value} {l l' o : List Sd} (h : RdW w W v1 v4 l o) (hg : W.grownBy W1 v1.ownBlock) (hr : kSd.R 74 W1 w.heap.size (fun _ => True) v1' l') (he : v1'.ownBlock = v1.ownBlock) : RdW w W1 v1' v4 l' o :=
  ⟨hr, Kd.R_mono (Kd.R_grown (sd_of_own (ok := fun k => some k ≠ v1.ownBlock) (fun k hk e => h.ne k e.symm hk) (sd_own h.r4)) hg (fun _ hk => hk)) (fun _ _ => trivial), fun k hk => h.ne k (he ▸ hk),
    h.hb.grown hg h.hb.size (fun k hk => Kd.R_base h.r1 k hk)⟩
theorem RdW.grown4 {w W W1 : World} {v1 v4 v4' : Value} {l o o' : List Sd} (h : RdW w W v1 v4 l o) (hg : W.grownBy W1 v4.ownBlock) (hr : kSd.R 74 W1 w.heap.size (fun _ => True) v4' o') (he : v4'.ownBlock = v4.ownBlock ∨ ∃ b, v4'.ownBlock = some b ∧ W.heap.size ≤ b) : RdW w W1 v1 v4' l o' :=
  ⟨Kd.R_mono (Kd.R_grown (sd_of_own (ok := fun k => some k ≠ v4.ownBlock) (fun k hk e => h.ne k hk e.symm) (sd_own h.r1)) hg (fun _ hk => hk)) (fun _ _ => trivial), hr, fun k hk e => by
    rcases he with he | ⟨b, he, hb⟩
    · exact h.ne k hk (he ▸ e)
    · rw [he] at e
      cases e
      have := Kd.R_lt h.r1 k hk
      omega, h.hb.grown hg h.hb.size (fun k hk => Kd.R_base h.r4 k hk)⟩
theorem step_none {i : Nat} {l o : List Sd} (h : fidx i l = -1) : Red.step i l o = (l, o) := by
  unfold fidx at h
  unfold Red.step
  cases hk : l.findIdx? (fun s => s.x.testBit i) with
  | none => rfl
  | some k => rw [hk] at h; exact absurd h (by simp)
theorem fidx_cases (i : Nat) (l : List Sd) : fidx i l = -1 ∨ ∃ k, k < l.length ∧ fidx i l = (k : Int) ∧ ∀ o, Red.step i l o = (clr i (l.getD k zSd) (l.eraseIdx k), clr i (l.getD k zSd) o ++ [l.getD k zSd]) := by
  unfold fidx
  cases hk : l.findIdx? (fun s => s.x.testBit i) with
  | none => exact .inl rfl
  | some k =>
    obtain ⟨hl, _⟩ := List.findIdx?_eq_some_iff_getElem.1 hk
    refine .inr ⟨k, hl, rfl, fun o => ?_⟩
    unfold Red.step
    rw [hk]
    rfl
theorem run_succ (d i : Nat) (l o : List Sd) : Red.run (d + 1) i l o = Red.run d (i + 1) (Red.step i l o).1 (Red.step i l o).2 := rfl
theorem box_cell (w : World) (v : Value) (t : TypeId) : (w.alloc (.cells #[v] t)).cell? ⟨w.heap.size, 0, none⟩ = some v := by
  simp only [World.cell?, heap_alloc_new]
  rfl
theorem eq_zeros (w : World) : (Op.equalIn 10000 72 (.agg #[.int .u64 0, .int .u64 0, .int .u64 0]) (.agg #[.int .u64 0, .int .u64 0, .int .u64 0])).run Try.prog w = .ok true w := by kernel_rfl
theorem clr_length (i : Nat) (p : Sd) (l : List Sd) : (clr i p l).length = l.length := by simp [clr]
set_option maxHeartbeats 1000000 in
set_option maxRecDepth 100000 in
theorem reduce_calls (n : Nat) (hn : n ≤ 160) (sz : Nat) (hsz : sz ≤ 1000000) (A : Option Addr) (c : Nat) (l : List Sd) (w : World) (h : kSd.C w A l.length l) (hlen : l.length ≤ 1000000)
    (hs : ∀ s ∈ l, s.b.size = sz) (hx : ∀ s ∈ l, ∀ j, n ≤ j → s.x.testBit j = false) :
    Calls Try.prog 36 #[.int .i64 n, .slice A l.length c] w fun e w' => ∃ v0 v1 : Value, e = .returned (.tuple #[v0, v1]) ∧
      kSd.R 74 w' w.heap.size (fun _ => True) v0 (Red.run n 0 l []).2 ∧ kSd.R 74 w' w.heap.size (fun _ => True) v1 (Red.run n 0 l []).1 ∧ Below w.heap.size w w' := by
  have HC := Aside0.mk (clone_calls A c l w h hlen)
  have HI := Aside0.mk (Inv.start hs hx)
  clear h hs hx
  go_enter Try.func36, Try.ntmps36
  go_wp2_with fail
  refine HC.out.mono ?_
  rintro e w1 ⟨v', rfl, hR, hB⟩
  have H1 : Aside0 (RdW w w1 v' (.slice none 0 0) l []) := ⟨⟨hR, Kd.R_nil _ _ _ _ _, fun k _ e => by simp [Value.ownBlock] at e, hB⟩⟩
  clear HC hR hB
  go_wp2_with fail
  go_loopw [1, 4, 15] (fun v1 v4 v15 wr => ∃ (i : Nat) (l' o' : List Sd), i ≤ n ∧ v15 = .int .i64 i ∧ Aside0 (RdW w wr v1 v4 l' o') ∧ Aside0 (Inv n i sz l l' o') ∧ Aside0 (Red.run (n - i) i l' o' = Red.run n 0 l []) ∧ Aside0 (l'.length + o'.length ≤ l.length)) (fun _ _ v15 _ => n - (intOf v15).toNat)
  case atStart => exact ⟨0, l, [], by omega, rfl, H1, HI, ⟨rfl⟩, ⟨by simp⟩⟩
  case round =>
    clear H1 HI
    obtain ⟨i, l', o', hi, rfl, HW, HI, HR, HL⟩ := hrel
    by_cases hlt : i < n
    · obtain ⟨A1, c1, e1⟩ := Kd.R_slice HW.out.r1
      subst e1
      have hlt' : (i : Int) < (n : Int) := by omega
      have HC0 := Aside0.mk (idx_calls wr.heap.size (i : Int) (by omega) (by omega) A1 c1 l' (wr.alloc (.cells #[.int .i64 i] 3)) (box_cell _ _ _) (Kd.C_alloc (Kd.R_reads' HW.out.r1).2.2 _))
      rw [Int.toNat_natCast] at HC0
      rcases fidx_cases i l' with hf | ⟨k, hk, hf, hstep⟩
      · have HS := Aside0.mk (step_none (o := o') hf)
        rw [hf] at HC0
        clear hf
        go_wp2_with fail
        refine HC0.out.mono ?_
        rintro e w2 ⟨rfl, hb2⟩
        have HW2 := Aside0.mk (HW.out.later (below_step (below_alloc (Below.refl _ wr) _) hb2))
        clear hb2 HC0 HW
        go_wp2_with fail
        go_roundw
        case rel =>
          have hr := HR.out
          rw [show n - i = (n - (i + 1)) + 1 by omega] at hr
          have hinv := HI.out.next
          rw [HS.out] at hinv
          rw [run_succ, HS.out] at hr
          exact ⟨i + 1, l', o', by omega, by go_num, HW2, ⟨hinv⟩, ⟨hr⟩, HL⟩
        case measure => simp [intOf]; omega
      · have HS := Aside0.mk (hstep o')
        rw [hf] at HC0
        obtain ⟨p, hp⟩ : ∃ p, p = l'.getD k zSd := ⟨_, rfl⟩
        rw [← hp] at HS
        have HP := Aside0.mk hp
        clear hf hstep hp
        obtain ⟨g, cap, ev, _, hgl, _⟩ := Kd.R_form HW.out.r1 (by omega)
        cases ev
        go_wp2_with fail
        refine HC0.out.mono ?_
        rintro e w2 ⟨rfl, hb2⟩
        have HB2 := Aside0.mk (below_step (below_alloc (Below.refl _ wr) _) hb2)
        have hci := pw_cell_below hb2 (box_cell wr (.int .i64 i) 3)
        have HW2 := Aside0.mk (HW.out.later HB2.out)
        have HZ2 : Aside0 (wr.heap.size < w2.heap.size) := ⟨World.block_lt_of_cell? w2 _ hci⟩
        have HCI := Aside0.mk hci
        clear hb2 HC0 hci
        obtain ⟨c0, c1', c2, c3⟩ := at_sd0 (Kd.R_reads' HW2.out.r1).2.2 k hk HP.out.symm
        have hkl : (k : Int) < (l'.length : Int) := by omega
        have hk0 : decide ((k : Int) < 0) = false := decide_eq_false (by omega)
        have hw : wrap64 ((k : Int) + 1) = (k : Int) + 1 := by
          have := (Kd.R_reads' HW2.out.r1).2.2.2.1
          unfold wrap64
          omega
        have H3 := Aside0.mk (HW2.out.later (below_alloc (Below.refl _ w2) (.cells #[.int .u64 (wd p.x 0), .int .u64 (wd p.x 1), .int .u64 (wd p.x 2), .string p.b] 74)))
        have HD := Aside0.mk (del_calls _ _ _ g c1 l' H3.out.r1 k hk)
        have B4 : Aside0 (∀ W4 : World, (w2.alloc (.cells #[.int .u64 (wd p.x 0), .int .u64 (wd p.x 1), .int .u64 (wd p.x 2), .string p.b] 74)).grownBy W4 (some g) →
            W4.cell? ⟨wr.heap.size, 0, none⟩ = some (.int .i64 i) ∧ W4.heap[w2.heap.size]? = some (.cells #[.int .u64 (wd p.x 0), .int .u64 (wd p.x 1), .int .u64 (wd p.x 2), .string p.b] 74 (0, 0))) := ⟨fun W4 hg => by
          have h1 : g < wr.heap.size := hgl
          have h2 := HZ2.out
          refine ⟨hg.cell (pw_cell_below (below_alloc (Below.refl _ w2) _) HCI.out) (by simp; omega), (hg.block w2.heap.size (by show w2.heap.size < (w2.heap.push _).size; simp) (by simp; omega)).trans (heap_alloc_new w2 _)⟩⟩
        have HSZ : Aside0 (∀ s ∈ l' ++ o', s.b.size ≤ 9223372036854775807) := ⟨fun s hs => by rw [HI.out.size s hs]; omega⟩
        have HU : Aside0 (∀ k, u4.ownBlock = some k → k < wr.heap.size) := ⟨fun k hk => Kd.R_lt HW.out.r4 k hk⟩
        have HG := Aside0.mk hgl
        clear HB2 hgl
        go_wp2_with fail
        refine HD.out.mono ?_
        rintro e w4 ⟨rfl, hr4, hg4⟩
        have H4 := Aside0.mk (H3.out.grown1 hg4 hr4 rfl)
        obtain ⟨q0, q1⟩ := B4.out w4 hg4
        have HCL := Aside0.mk (clear_calls w4 _ _ wr.heap.size w2.heap.size (i : Int) (by omega) (by omega) p _ _ (fun s hs => HSZ.out s (List.mem_append_left _ (List.mem_of_mem_eraseIdx hs)))
          ⟨hr4, World.grownBy.refl _ _, q0, q1, by have := HG.out; simp [Value.ownBlock]; omega, by have := HG.out; have := HZ2.out; simp [Value.ownBlock]; omega⟩)
        rw [Int.toNat_natCast] at HCL
        clear hr4 hg4 q0 q1 H3 HD B4 HW2 HCI c0 c1' c2 c3
        go_wp2_with fail
        refine HCL.out.mono ?_
        rintro e w5 ⟨rfl, hw5⟩
        have H5 := Aside0.mk (H4.out.grown1 hw5.gr hw5.own rfl)
        have HCL2 := Aside0.mk (clear_calls w5 w.heap.size (fun _ => True) wr.heap.size w2.heap.size (i : Int) (by omega) (by omega) p u4 o' (fun s hs => HSZ.out s (List.mem_append_right _ hs))
          ⟨H5.out.r4, World.grownBy.refl _ _, hw5.hi, hw5.hp, fun e => by have := HU.out _ e.symm; omega, fun e => by have := HU.out _ e.symm; have := HZ2.out; omega⟩)
        rw [Int.toNat_natCast] at HCL2
        clear hw5 HCL H4
        go_wp2_with fail
        refine HCL2.out.mono ?_
        rintro e w6 ⟨rfl, hw6⟩
        have H6 := Aside0.mk (H5.out.grown4 hw6.gr hw6.own (.inl rfl))
        obtain ⟨d0, d1, d2, d3, -⟩ := cell4 hw6.hp
        clear hw6 HCL2 H5
        go_wp2_with ((with_reducible refine gate_builtin (b := .append) (xs := #[.tmp 39, .tmp 41]) rfl ?_); at_builtin; refine Kd.R_append kSd (w0 := w) w.heap.size rfl (.tmp 39) (.tmp 41) 64 74 (.agg #[.int .u64 0, .int .u64 0, .int .u64 0, .string ⟨#[]⟩]) 40 rfl Try.underlying64 info74 rfl (by decide) (by omega) u4 (clr i p o') p (sdC p) (fun _ => True) (fun _ => False) rfl rfl rfl (fun _ hk => hk.elim) (fun _ _ => trivial) H6.out.r4 H6.out.hb H6.out.hb.size (by rw [clr_length]; have := HL.out; omega) ?_; intro v7 w7 hr7 hb7 hg7 hat7; have H7 := Aside0.mk (H6.out.grown4 hg7 hr7 hat7); clear H6 hr7 hb7 hg7 hat7)
        go_roundw
        case rel =>
          have hr := HR.out
          rw [show n - i = (n - (i + 1)) + 1 by omega] at hr
          have hinv := HI.out.next
          rw [HS.out] at hinv
          rw [run_succ, HS.out] at hr
          refine ⟨i + 1, clr i p (l'.eraseIdx k), clr i p o' ++ [p], by omega, by go_num, H7, ⟨hinv⟩, ⟨hr⟩, ⟨?_⟩⟩
          rw [clr_length, List.length_append, clr_length, List.length_eraseIdx_of_lt hk]
          have := HL.out
          simp
          omega
        case measure => simp [intOf]; omega
    · obtain rfl : i = n := by omega
      have HE : Aside0 (Red.run i 0 l [] = (l', o')) := ⟨by have := HR.out; rw [Nat.sub_self] at this; exact this.symm⟩
      have HX : Aside0 (∀ s ∈ l', s.x = 0) := ⟨fun s hs => testBit_zero_of fun j => by
        by_cases hj : j < i
        · exact HI.out.low s hs j hj
        · exact HI.out.high s (List.mem_append_left _ hs) j (by omega)⟩
      have HLL : Aside0 (l'.length ≤ 1000000) := ⟨by have := HL.out; omega⟩
      obtain ⟨A1, c1, e1⟩ := Kd.R_slice HW.out.r1
      subst e1
      have hl1 : (l'.length : Int) ≤ 1000000 := by have := HLL.out; omega
      clear HR HI HL
      go_wp2_with fail
      obtain ⟨w0, hw0⟩ : ∃ w0 : World, w0 = wr := ⟨_, rfl⟩
      rw [← hw0] at HW
      have HB0 : Aside0 (Below w0.heap.size w0 wr) := ⟨by rw [hw0]; exact Below.refl _ _⟩
      clear hw0
      go_loopw [5, 46] (fun v5 v46 wr => ∃ (k : Nat), k ≤ l'.length ∧ v46 = .int .i64 k ∧ Aside0 (kSd.R 74 wr w0.heap.size (fun _ => True) v5 (l'.take k)) ∧ Aside0 (Below w0.heap.size w0 wr)) (fun _ v46 _ => l'.length - (intOf v46).toNat)
      case atStart => exact ⟨0, by omega, rfl, ⟨Kd.R_nil _ _ _ _ _⟩, HB0⟩
      case round =>
        clear HB0
        obtain ⟨k, hk, rfl, HO, HB⟩ := hrel
        by_cases hlk : k < l'.length
        · obtain ⟨g, cap, ev, _, hgl, _⟩ := Kd.R_form HW.out.r1 (by omega)
          cases ev
          obtain ⟨s, hs⟩ : ∃ s, s = l'.getD k zSd := ⟨_, rfl⟩
          obtain ⟨c0, c1', c2, c3⟩ := at_sd0 (Kd.R_reads' (Kd.R_below HW.out.r1 HB.out)).2.2 k hlk hs.symm
          have hsx : s.x = 0 := HX.out s (by rw [hs]; simp [List.getD_eq_getElem?_getD, hlk])
          have HT : Aside0 (l'.take (k + 1) = l'.take k ++ [s]) := ⟨by rw [List.take_succ_eq_append_getElem hlk, hs]; simp [List.getD_eq_getElem?_getD, hlk]⟩
          rw [hsx, show wd 0 0 = 0 from rfl] at c0
          rw [hsx, show wd 0 1 = 0 from rfl] at c1'
          rw [hsx, show wd 0 2 = 0 from rfl] at c2
          have HSC : Aside0 (sdC s = [.int .u64 0, .int .u64 0, .int .u64 0, .string s.b]) := ⟨by unfold sdC; rw [hsx]; rfl⟩
          have hlk' : (k : Int) < (l'.length : Int) := by omega
          have heq := eq_zeros
          have HO1 := Aside0.mk (Kd.R_alloc HO.out (.cells #[.int .u64 0, .int .u64 0, .int .u64 0, .string s.b] 74))
          have HB1 := Aside0.mk (below_then HB.out HB.out.size (below_alloc (Below.refl wr.heap.size wr) (.cells #[.int .u64 0, .int .u64 0, .int .u64 0, .string s.b] 74)))
          clear hs hsx HO HB
          go_wp2_with ((with_reducible refine gate_builtin (b := .append) (xs := #[.tmp 54, .tmp 56]) rfl ?_); at_builtin; refine Kd.R_append kSd (w0 := w0) w0.heap.size rfl (.tmp 54) (.tmp 56) 64 74 (.agg #[.int .u64 0, .int .u64 0, .int .u64 0, .string ⟨#[]⟩]) 40 rfl Try.underlying64 info74 rfl (by decide) (by omega) u5 (l'.take k) s [.int .u64 0, .int .u64 0, .int .u64 0, .string s.b] (fun _ => True) (fun _ => False) rfl (by show Value.slice (some ⟨wr.heap.size + 1, 0, none⟩) 1 1 = _; simp) HSC.out.symm (fun _ hk => hk.elim) (fun _ _ => trivial) HO1.out HB1.out HB1.out.size (by rw [List.length_take]; have := HLL.out; omega) ?_; intro v7 w7 hr7 hb7 hg7 hat7; have H7 := Aside0.mk hr7; have H8 := Aside0.mk hb7; clear HO1 HB1 hr7 hb7 hg7 hat7)
          go_roundw
          case rel => exact ⟨k + 1, by omega, by go_num, by rw [HT.out]; exact H7, H8⟩
          case measure => simp [intOf]; omega
        · obtain rfl : k = l'.length := by omega
          go_wp2_with fail
          go_ret2
          rw [HE.out]
          refine ⟨_, _, rfl, Kd.R_below HW.out.r4 HB.out, ?_, below_step HW.out.hb HB.out⟩
          have := HO.out
          rw [List.take_length] at this
          exact Kd.R_lower this HW.out.hb.size
end Go.Proofs.Ytgcgnnblgimegaa.P
