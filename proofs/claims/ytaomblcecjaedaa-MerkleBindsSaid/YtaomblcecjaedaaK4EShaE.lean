/- What the claim on this statement wants of the text YtaomblcecjaedaaEShaE. Not trusted: Lean checks it. -/
import Derived.Test.YtaomblcecjaedaaK4EShaD
import Derived.Deep.RegionLaw
namespace Go.Proofs.Ytaomblcecjaedaa.P
open Go.RowKit Go.Proofs.YtaomblcecjaedaaW.PrintWords Go.Proofs.YtaomblcecjaedaaW.PrintLast Go.Proofs.YtaomblcecjaedaaW.PrintMore
attribute [local go_sem] max2_int min2_int max_two min_two max_three min_three max_four min_four
set_option linter.unusedVariables false
set_option linter.unusedSimpArgs false
theorem step_append_str {P : Program} {ops : Array Oper} {o : Oper} {a : Act} {w : World} {K : Act → World → Prop} {Q : Exit → Act → World → Prop} {E : Prop}
    (hgd : o.guard = none) (s x : Operand) (t u : TypeId) (hop : o.op = .call { callee := .builtin .append, args := #[s, x], argTypes := #[t, u] })
    (sv : Value) (y : ByteArray) (hs : a.eval s = sv) (hx : a.eval x = .string y) (v : Value) (w' : World) (hrun : Aside0 ((Builtin.append_ #[t, u] o.type #[sv, .string y]).run P w = .ok v w'))
    (hK : K (a.put o.dst v) w') :
    if Region.wanted o (yielded ops a.tmps) = true then Oper.wp P o a w K Q else E := by
  have hw : Region.wanted o (yielded ops a.tmps) = true := by simp [Region.wanted, hgd]
  rw [if_pos hw]
  unfold Oper.wp execOp
  simp only [hop, resolve, invoke, builtin, Sem.run_bind, Sem.run_pure, Result.andThen_ok, List.map_toArray, List.map_cons, List.map_nil, hs, hx, hrun.out]
  exact hK
theorem mix64 (s : List Int) (hs : s.length = 8) (A0 : Option Addr) (c0 : Nat) (l : List Int) (hl : l.length = 64) (B : Nat) (w : World) (ho : w.ownsRow B 5 1 (.slice A0 64 c0) l.length (nums .u8 l)) :
    Calls Try.prog 57 #[.agg (U s), .slice A0 64 c0] w fun e w' => e = .returned (.agg (U (mixL s l))) ∧ Below w.heap.size w w' := by
  have h := Kd.R_reads' (Kd.R_of_own (enc := Value.int .u8) (h1 := fun _ => rfl) (ok := fun _ => True) (xs := l) ho (fun _ _ => trivial))
  have := mix_calls s hs A0 c0 l w (by have := h.2.2; rw [hl] at this ⊢; exact this) (by rw [hl]; exact h.2.1) (by omega)
  rw [hl] at this
  exact this
theorem HW.cells8 {w W : World} {g : Nat} {a0 a1 a2 a3 a4 a5 a6 a7 n : Int} {v : Value} {xs : List Int} (h : HW w W g [a0, a1, a2, a3, a4, a5, a6, a7] n v xs) :
    W.cell? ⟨g, 0, none⟩ = some (.int .u32 a0) ∧ W.cell? ⟨g, 1, none⟩ = some (.int .u32 a1) ∧ W.cell? ⟨g, 2, none⟩ = some (.int .u32 a2) ∧ W.cell? ⟨g, 3, none⟩ = some (.int .u32 a3) ∧ W.cell? ⟨g, 4, none⟩ = some (.int .u32 a4) ∧ W.cell? ⟨g, 5, none⟩ = some (.int .u32 a5) ∧ W.cell? ⟨g, 6, none⟩ = some (.int .u32 a6) ∧ W.cell? ⟨g, 7, none⟩ = some (.int .u32 a7) :=
  ⟨h.range 0 _ rfl, h.range 1 _ rfl, h.range 2 _ rfl, h.range 3 _ rfl, h.range 4 _ rfl, h.range 5 _ rfl, h.range 6 _ rfl, h.range 7 _ rfl⟩
theorem HW.set8 {w W : World} {g : Nat} {st : List Int} {n : Int} {v : Value} {xs : List Int} (h : HW w W g st n v xs) (b0 b1 b2 b3 b4 b5 b6 b7 : Int) :
    HW w ((((((((W.setCell ⟨g, 0, none⟩ (.int .u32 b0)).setCell ⟨g, 1, none⟩ (.int .u32 b1)).setCell ⟨g, 2, none⟩ (.int .u32 b2)).setCell ⟨g, 3, none⟩ (.int .u32 b3)).setCell ⟨g, 4, none⟩ (.int .u32 b4)).setCell ⟨g, 5, none⟩ (.int .u32 b5)).setCell ⟨g, 6, none⟩ (.int .u32 b6)).setCell ⟨g, 7, none⟩ (.int .u32 b7)) g [b0, b1, b2, b3, b4, b5, b6, b7] n v xs := h.setS (st' := [b0, b1, b2, b3, b4, b5, b6, b7]) rfl
theorem mix64' (a0 a1 a2 a3 a4 a5 a6 a7 b0 b1 b2 b3 b4 b5 b6 b7 : Int) (A0 : Option Addr) (c0 : Nat) (l : List Int) (hl : l.length = 64) (B : Nat) (w : World) (ho : w.ownsRow B 5 1 (.slice A0 64 c0) l.length (nums .u8 l)) (hf : [b0, b1, b2, b3, b4, b5, b6, b7] = mixL [a0, a1, a2, a3, a4, a5, a6, a7] l) :
    Calls Try.prog 57 #[.agg #[Value.int IntKind.u32 a0, Value.int IntKind.u32 a1, Value.int IntKind.u32 a2, Value.int IntKind.u32 a3, Value.int IntKind.u32 a4, Value.int IntKind.u32 a5, Value.int IntKind.u32 a6, Value.int IntKind.u32 a7], .slice A0 64 c0] w fun e w' => e = .returned (.agg #[Value.int IntKind.u32 b0, Value.int IntKind.u32 b1, Value.int IntKind.u32 b2, Value.int IntKind.u32 b3, Value.int IntKind.u32 b4, Value.int IntKind.u32 b5, Value.int IntKind.u32 b6, Value.int IntKind.u32 b7]) ∧ Below w.heap.size w w' := by
  have := mix64 [a0, a1, a2, a3, a4, a5, a6, a7] rfl A0 c0 l hl B w ho
  rw [← hf] at this
  exact this
theorem own_cut0 {W : World} {B n : Nat} {A : Option Addr} {c : Nat} {xs : List Value} (h : W.ownsRow B 5 1 (.slice A 64 c) n xs) : W.ownsRow B 5 1 (.slice A 0 c) ([] : List Int).length (nums .u8 []) := by
  have hn : n = 64 := by
    obtain ⟨A', c', he⟩ := own_slice h
    injection he with _ h2 _
    exact h2.symm
  subst hn
  have := own_take h (Nat.zero_le 64)
  simpa [nums] using this
theorem own_bytes {W : World} {B : Nat} {v : Value} {xs : List Int} {s : ByteArray} (h : W.ownsRow B 5 1 v (xs.length + s.size) (nums .u8 xs ++ Lib.strCells s)) : W.ownsRow B 5 1 v (xs ++ bytesOf s).length (nums .u8 (xs ++ bytesOf s)) := by
  have hl2 : (xs ++ bytesOf s).length = xs.length + s.size := by rw [List.length_append, bytesOf_length]
  have hc : nums .u8 (xs ++ bytesOf s) = nums .u8 xs ++ Lib.strCells s := by
    rw [nums_append]
    congr 1
    simp [nums, bytesOf, Lib.strCells]
  rw [hl2, hc]
  exact h
/-- What is written goes into the part, and whole blocks into the state. -/
def wrN : Nat → List Int → List Int → ByteArray → Option (List Int × List Int)
  | 0, _, _, _ => none
  | k + 1, st, xs, s => if s.size < 64 - xs.length then some (st, xs ++ bytesOf s)
    else wrN k (mixL st (xs ++ bytesOf (s.extract 0 (64 - xs.length)))) [] (s.extract (64 - xs.length) s.size)
def WrJ (w : World) (g : Nat) (N : Int) (st1 xs1 : List Int) (n : Nat) (a : Act) (W : World) : Prop :=
  ∃ (st xs : List Int) (s : ByteArray) (v u5 u6 u7 u8 u9 u10 u11 u12 u13 u14 u15 u16 u17 u18 u19 u20 u21 u22 u23 u24 u25 u26 u27 u28 u29 u30 u31 u32 u33 u34 u35 u36 u37 u38 u39 u40 u41 u42 u43 u44 u45 u46 u47 u48 u49 u50 u51 u52 u53 u54 u55 u56 u57 u58 u59 u60 u61 u62 u63 u64 u65 u66 u67 u68 u69 u70 u71 u72 u73 u74 u75 : Value), a = { tmps := #[.pointer (some ⟨g, 0, none⟩), .string s, undef, undef, .int .i64 0, u5, u6, u7, u8, u9, u10, u11, u12, u13, u14, u15, u16, u17, u18, u19, u20, u21, u22, u23, u24, u25, u26, u27, u28, u29, u30, u31, u32, u33, u34, u35, u36, u37, u38, u39, u40, u41, u42, u43, u44, u45, u46, u47, u48, u49, u50, u51, u52, u53, u54, u55, u56, u57, u58, u59, u60, u61, u62, u63, u64, u65, u66, u67, u68, u69, u70, u71, u72, u73, u74, u75], defers := [] } ∧
    Aside0 (HW w W g st N v xs) ∧ Aside0 (xs.length < 64) ∧ Aside0 (wrN n st xs s = some (st1, xs1)) ∧ Aside0 (s.size ≤ 65536)
set_option maxHeartbeats 1000000 in
set_option maxRecDepth 100000 in
theorem write_calls (w W : World) (g : Nat) (st xs : List Int) (n : Int) (v : Value) (s0 : ByteArray) (k : Nat) (st1 xs1 : List Int) (h : HW w W g st n v xs) (hx : xs.length < 64) (h0 : 0 ≤ n) (hs : (s0.size : Int) ≤ 65536 - n)
    (hk : wrN k st xs s0 = some (st1, xs1)) :
    Calls Try.prog 49 #[.pointer (some ⟨g, 0, none⟩), .string s0] W fun e W' => e = .returned (.int .i64 0) ∧ ∃ v', HW w W' g st1 (n + s0.size) v' xs1 ∧ xs1.length < 64 := by
  have H := Aside0.mk h
  have HX := Aside0.mk hx
  have HK := Aside0.mk hk
  have c8 := h.cell8
  have c9 := h.cell9
  have f8 := h.froz 8
  have f9 := h.froz 9
  have d1 : decide ((65536 : Int) - n < s0.size) = false := by simp; omega
  clear h hx hk
  go_enter Try.func49, Try.ntmps49
  go_wp2_with fail
  refine wp_scope_ghost3 0 k (WrJ w g (n + s0.size) st1 xs1) rfl ?pass ?first
  case first =>
    intro hfirst
    go_wp2_with fail
    go_step3
    go_step
    go_step
    exact hfirst k _ _ (Nat.le_refl _) ⟨st, xs, s0, v, _, _, _, _, _, _, _, _, _, _, _, _, _, _, _, _, _, _, _, _, _, _, _, _, _, _, _, _, _, _, _, _, _, _, _, _, _, _, _, _, _, _, _, _, _, _, _, _, _, _, _, _, _, _, _, _, _, _, _, _, _, _, _, _, _, _, _, _, _, _, _, rfl, ⟨H.out.setN _⟩, HX, HK, ⟨by omega⟩⟩
  case pass =>
    rintro m a W1 ⟨st, xs, s, v, u5, u6, u7, u8, u9, u10, u11, u12, u13, u14, u15, u16, u17, u18, u19, u20, u21, u22, u23, u24, u25, u26, u27, u28, u29, u30, u31, u32, u33, u34, u35, u36, u37, u38, u39, u40, u41, u42, u43, u44, u45, u46, u47, u48, u49, u50, u51, u52, u53, u54, u55, u56, u57, u58, u59, u60, u61, u62, u63, u64, u65, u66, u67, u68, u69, u70, u71, u72, u73, u74, u75, rfl, H, HX, HK, HS⟩
    clear c8 c9 f8 f9 d1
    obtain ⟨Ap, cp, ep⟩ := own_slice H.out.own
    subst ep
    have c8 := H.out.cell8
    have f8 := H.out.froz 8
    have hx := HX.out
    have hss := HS.out
    cases m with
    | zero => exact absurd HK.out (by simp [wrN])
    | succ m =>
      have hk := HK.out
      clear HK
      simp only [wrN] at hk
      by_cases hlt : s.size < 64 - xs.length
      · rw [if_pos hlt] at hk
        have hk2 : st = st1 ∧ xs ++ bytesOf s = xs1 := by simpa using hk
        obtain ⟨rfl, rfl⟩ := hk2
        clear hk
        have zz : s.size ≤ 64 - xs.length := by omega
        have e1 : s.extract 0 s.size = s := by simp
        have e2 : s.extract s.size s.size = ByteArray.empty := by simp
        have E1 := Aside0.mk e1
        have E2 := Aside0.mk e2
        clear e1 e2
        go_wp2_with fail
        obtain ⟨i0, hi0, hz0, hz1, hz2⟩ := info_parts info5
        obtain ⟨v1, w1, hrun, own1, hg1, _⟩ := Lib.run_append_own_string (P := Try.prog) (w := W1.drew) w.heap.size 64 9 64 5 i0 Try.underlying64 Try.underlying9 hi0 hz0 hz1 hz2 _ _ _ H.out.own s (by unfold maxLen; omega) (by omega) H.out.hb.size
        obtain ⟨A1, c1, e1⟩ := own_slice own1
        subst e1
        have HRUN := Aside0.mk hrun
        clear hrun
        have OWN1 := Aside0.mk own1
        have HG1 := Aside0.mk hg1
        have hne : some g ≠ (Value.slice Ap xs.length cp).ownBlock := fun e => own_far5 H.out.own H.out.hg (by decide) e.symm
        have hgb : w1.heap[g]? = W1.heap[g]? := hg1.block g (Array.getElem?_eq_some_iff.1 H.out.hg).1 hne
        have HGB := Aside0.mk hgb
        have cc8 : w1.cell? ⟨g, 8, none⟩ = some (.slice Ap xs.length cp) := (World.cell?_of_block (a := ⟨g, 8, none⟩) hgb).trans c8
        have ff8 : w1.frozen? ⟨g, 8, none⟩ = false := (World.frozen?_of_block (a := ⟨g, 8, none⟩) hgb).trans f8
        have HBB := Aside0.mk (Below.grown (pw_below_drewN H.out.hb 1) hg1 H.out.hb.size (fun k hk => own_base H.out.own k hk))
        clear hne hgb
        clear hi0 hz0 hz1 hz2 own1 hg1 i0
        go_region_law ((refine step_append_str rfl _ _ 64 9 rfl _ s rfl rfl _ w1 HRUN ?_))
        have H2 := Aside0.mk (H.out.setV HGB.out HBB.out (own_bytes OWN1.out))
        clear H c8 f8 HRUN OWN1 HG1 HGB HBB cc8 ff8
        generalize w1.setCell ⟨g, 8, none⟩ (.slice A1 (xs.length + s.size) c1) = W2 at H2 ⊢
        have c8 := H2.out.cell8
        have t1 : ((xs.length : Int) + (s.size : Int) == 64) = false := beq_eq_false_iff_ne.2 (by omega)
        have t2 : (((xs.length + s.size : Nat) : Int) == 64) = false := beq_eq_false_iff_ne.2 (by omega)
        go_wp2_with fail
        simp only [Exit.jump]
        go_ret
        exact ⟨rfl, _, H2.out, by rw [List.length_append, bytesOf_length]; omega⟩
      · rw [if_neg hlt] at hk
        obtain ⟨d, hd⟩ : ∃ d, xs.length + d = 64 := ⟨64 - xs.length, by omega⟩
        rw [show 64 - xs.length = d from by omega] at hk
        have zd : (64 : Int) - (xs.length : Int) = (d : Int) := by omega
        have zz : d ≤ s.size := by omega
        have hsz : (s.extract 0 d).size = d := by rw [ByteArray.size_extract]; omega
        have HK := Aside0.mk hk
        have HSZ := Aside0.mk hsz
        have HD := Aside0.mk hd
        obtain ⟨i0, hi0, hz0, hz1, hz2⟩ := info_parts info5
        obtain ⟨v1, w1, hrun, own1, hg1, _⟩ := Lib.run_append_own_string (P := Try.prog) (w := W1.drew) w.heap.size 64 9 64 5 i0 Try.underlying64 Try.underlying9 hi0 hz0 hz1 hz2 _ _ _ H.out.own (s.extract 0 d) (by unfold maxLen; omega) (by omega) H.out.hb.size
        have own2 := own_bytes own1
        rw [hsz, hd] at own1
        obtain ⟨A1, c1, e1⟩ := own_slice own1
        subst e1
        have HRUN := Aside0.mk hrun
        have OWN1 := Aside0.mk own2
        have HG1 := Aside0.mk hg1
        clear hk hd hsz hlt hrun own1 own2
        have hne : some g ≠ (Value.slice Ap xs.length cp).ownBlock := fun e => own_far5 H.out.own H.out.hg (by decide) e.symm
        have hgb : w1.heap[g]? = W1.heap[g]? := hg1.block g (Array.getElem?_eq_some_iff.1 H.out.hg).1 hne
        have HGB := Aside0.mk hgb
        have cc8 : w1.cell? ⟨g, 8, none⟩ = some (.slice Ap xs.length cp) := (World.cell?_of_block (a := ⟨g, 8, none⟩) hgb).trans c8
        have ff8 : w1.frozen? ⟨g, 8, none⟩ = false := (World.frozen?_of_block (a := ⟨g, 8, none⟩) hgb).trans f8
        have HBB := Aside0.mk (Below.grown (pw_below_drewN H.out.hb 1) hg1 H.out.hb.size (fun k hk => own_base H.out.own k hk))
        clear hne hgb hg1 hi0 hz0 hz1 hz2 i0
        go_wp2_with fail
        go_region_law ((refine step_append_str rfl _ _ 64 9 rfl _ (s.extract 0 d) rfl rfl _ w1 HRUN ?_))
        have H2 := Aside0.mk (H.out.setV HGB.out HBB.out OWN1.out)
        clear H c8 f8 HRUN OWN1 HG1 HGB HBB cc8 ff8
        generalize w1.setCell ⟨g, 8, none⟩ (.slice A1 64 c1) = W2 at H2 ⊢
        have c8 := H2.out.cell8
        have f8 := H2.out.froz 8
        go_wp2_with fail
        obtain ⟨b, hb⟩ : ∃ z, z = xs ++ bytesOf (s.extract 0 d) := ⟨_, rfl⟩
        rw [← hb] at H2 HK
        have hb64 : b.length = 64 := by rw [hb, List.length_append, bytesOf_length, HSZ.out]; exact HD.out
        obtain ⟨fin, hfin⟩ : ∃ z, z = mixL st b := ⟨_, rfl⟩
        rw [← hfin] at HK
        have hf8 : fin.length = 8 := by rw [hfin]; exact mixL_len _ _ H2.out.st8
        obtain ⟨a0, a1, a2, a3, a4, a5, a6, a7, hst⟩ := list8 st H2.out.st8
        obtain ⟨b0, b1, b2, b3, b4, b5, b6, b7, hfi⟩ := list8 fin hf8
        subst hst
        subst hfi
        have HMIX := Aside0.mk (mix64' a0 a1 a2 a3 a4 a5 a6 a7 b0 b1 b2 b3 b4 b5 b6 b7 A1 c1 b hb64 w.heap.size W2.drew H2.out.own hfin)
        obtain ⟨q0, q1, q2, q3, q4, q5, q6, q7⟩ := H2.out.cells8
        clear hb hb64 hfin hf8
        go_region_law (go_simp; go_at_call 57; refine HMIX.out.mono ?_; rintro e w3 ⟨rfl, hb3⟩; have H3 := Aside0.mk ((H2.out.drewN 1).later hb3); clear hb3; obtain ⟨r0, r1, r2, r3, r4, r5, r6, r7⟩ := H3.out.cells8; have g0 := H3.out.froz 0; have g1 := H3.out.froz 1; have g2 := H3.out.froz 2; have g3 := H3.out.froz 3; have g4 := H3.out.froz 4; have g5 := H3.out.froz 5; have g6 := H3.out.froz 6; have g7 := H3.out.froz 7)
        all_goals
          have H4 := Aside0.mk (H3.out.set8 b0 b1 b2 b3 b4 b5 b6 b7)
          clear H2 H3 c8 f8 q0 q1 q2 q3 q4 q5 q6 q7 r0 r1 r2 r3 r4 r5 r6 r7 g0 g1 g2 g3 g4 g5 g6 g7 HMIX
          generalize ((((((((w3.setCell ⟨g, 0, none⟩ (.int .u32 b0)).setCell ⟨g, 1, none⟩ (.int .u32 b1)).setCell ⟨g, 2, none⟩ (.int .u32 b2)).setCell ⟨g, 3, none⟩ (.int .u32 b3)).setCell ⟨g, 4, none⟩ (.int .u32 b4)).setCell ⟨g, 5, none⟩ (.int .u32 b5)).setCell ⟨g, 6, none⟩ (.int .u32 b6)).setCell ⟨g, 7, none⟩ (.int .u32 b7)) = W4 at H4 ⊢
          have c8 := H4.out.cell8
          have f8 := H4.out.froz 8
          go_wp2_with fail
          go_step3
          have HV : Aside0 (HW w (W4.setCell ⟨g, 8, none⟩ (.slice A1 0 c1)) g [b0, b1, b2, b3, b4, b5, b6, b7] (n + s0.size) (.slice A1 0 c1) []) := ⟨H4.out.setV rfl H4.out.hb (own_cut0 H4.out.own)⟩
          have hs2 : (s.extract d s.size).size ≤ 65536 := by rw [ByteArray.size_extract]; omega
          refine ⟨rfl, m, Nat.lt_succ_self m, ?_⟩
          exact ⟨[b0, b1, b2, b3, b4, b5, b6, b7], [], s.extract d s.size, _, _, _, _, _, _, _, _, _, _, _, _, _, _, _, _, _, _, _, _, _, _, _, _, _, _, _, _, _, _, _, _, _, _, _, _, _, _, _, _, _, _, _, _, _, _, _, _, _, _, _, _, _, _, _, _, _, _, _, _, _, _, _, _, _, _, _, _, _, _, _, _, rfl, HV, ⟨by decide⟩, HK, ⟨hs2⟩⟩
end Go.Proofs.Ytaomblcecjaedaa.P
