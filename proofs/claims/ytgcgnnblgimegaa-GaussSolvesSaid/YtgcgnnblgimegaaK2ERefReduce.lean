/- What the claim on this statement wants of the text YtgcgnnblgimegaaERefReduce. Not trusted: Lean checks it. -/
import Derived.Test.YtgcgnnblgimegaaK2ERefOps
import Derived.Deep.RegionHeld3
import Derived.Deep.DeepCutAuto
namespace Go.Proofs.Ytgcgnnblgimegaa.P
open Go.RowKit Go.Proofs.YtgcgnnblgimegaaW.PrintWords Go.Proofs.YtgcgnnblgimegaaW.PrintLast Go.Proofs.YtgcgnnblgimegaaW.PrintMore
open Go.Proofs.Ytgcgnnblgimegaa.Red
set_option linter.unusedVariables false
set_option linter.unusedSimpArgs false
structure RrW (w wr : World) (n sz : Nat) (ins : List Eq4) (k : Nat) (vL vE : Value) (ts : List Eq4) (E : List ByteArray) : Prop where
  res : wr.heap[w.heap.size]? = some (.cells #[.slice none 0 0, .slice none 0 0] 83 (0, 0))
  box : wr.heap[w.heap.size + 1]? = some (.cells #[vL, vE] 83 (0, 0))
  rL : kEq.R 81 wr w.heap.size (fun _ => True) vL ts
  rE : Kd.R Kd.string 9 wr w.heap.size (fun _ => True) vE E
  eq : (ts.map Eq4.s, E) = ((ins.map Eq4.s).take k).foldl (redS n) ([], [])
  ok : ∀ t ∈ ts, RowOk w.heap.size wr t ∧ t.b.size = sz
  cnt : ts.length + E.length ≤ k
  below : Below w.heap.size w wr
  k3 : K3 w.heap.size w wr
theorem cell2 {w : World} {g : Nat} {a b : Value} {t : TypeId} (h : w.heap[g]? = some (.cells #[a, b] t (0, 0))) :
    w.cell? ⟨g, 0, none⟩ = some a ∧ w.cell? ⟨g, 1, none⟩ = some b ∧ ∀ j, w.frozen? ⟨g, j, none⟩ = false := by
  refine ⟨?_, ?_, fun j => frozen_of_row w g j _ _ h⟩ <;> simp only [World.cell?, h] <;> rfl
theorem at_eqg {w : World} {A : Option Addr} {n : Nat} {xs : List Eq4} (h : kEq.C w A n xs) (k : Nat) (h1 : k < n) (hn : xs.length = n) (t : Eq4) (ht : t = xs.getD k zEq) :
    ∃ ad, A = some ad ∧ w.cell? (ad.add (k * 2)) = some (.slice t.A t.l.length t.c) ∧ w.cell? ⟨(ad.add (k * 2)).block, (ad.add (k * 2)).off + 1, none⟩ = some (.string t.b) := by
  subst ht
  exact at_eq h k h1
theorem K3.of_R {α : Type} {d : Kd α} {e base B : Nat} {ok : Nat → Prop} {W w1 : World} {v : Value} {xs : List α} (hv : d.R e W base ok v xs) (he : e ≠ 3) (hB : B ≤ base) (hg : W.grownBy w1 v.ownBlock) : K3 B W w1 := by
  obtain ⟨inner, ho⟩ := Kd.R_own hv
  refine ⟨hg.size, fun k hk => hg.block k hk.1 (fun e' => ?_)⟩
  obtain ⟨cells, hc⟩ := own_typed ho k e'.symm
  exact not_safe hc he (Nat.le_trans hB (Kd.R_base hv k e'.symm)) hk
theorem kEq_ne (t : Nat) (h : t ≠ 81) : ∀ q, q ∈ 81 :: kEq.E → q ≠ t := fun q hq => by
  have : q = 81 := by simpa [kEq, flat] using hq
  omega
/-- While a row is put into those that are reduced already: its box alone is written. -/
structure In1 (w W1 wr : World) (gx sz : Nat) (x : Eq4) : Prop where
  box : wr.heap[gx]? = some (.cells #[.slice x.A x.l.length x.c, .string x.b] 81 (0, 0))
  ok : RowOk w.heap.size wr x
  sz : x.b.size = sz
  kb : KeepBut W1 wr gx none
  k3 : K3 w.heap.size W1 wr
  below : Below w.heap.size w wr
theorem In1.later {w W1 wr w1 : World} {gx sz : Nat} {x : Eq4} (h : In1 w W1 wr gx sz x) (hb : Below wr.heap.size wr w1) : In1 w W1 w1 gx sz x where
  box := (hb.block gx (Array.getElem?_eq_some_iff.1 h.box).1).trans h.box
  ok := h.ok.keep (K3.below hb)
  sz := h.sz
  kb := h.kb.trans (KeepBut.of_below hb gx none) (.inl rfl)
  k3 := h.k3.trans (K3.below hb)
  below := below_step h.below hb
theorem In1.put {w W1 wr : World} {gx sz : Nat} {x x' : Eq4} (h : In1 w W1 wr gx sz x) (hg : w.heap.size ≤ gx) (hok : RowOk w.heap.size wr x') (hz : x'.b.size = sz) :
    In1 w W1 ((wr.setCell ⟨gx, 0, none⟩ (.slice x'.A x'.l.length x'.c)).setCell ⟨gx, 1, none⟩ (.string x'.b)) gx sz x' := by
  have h1 := blk_put h.box 0 (.slice x'.A x'.l.length x'.c) rfl
  have h2 := blk_put h1 1 (.string x'.b) rfl
  have k1 : K3 w.heap.size wr (wr.setCell ⟨gx, 0, none⟩ (.slice x'.A x'.l.length x'.c)) := K3.set h.box (by decide) hg 0 _
  have k2 := k1.trans (K3.set h1 (by decide) hg 1 (.string x'.b))
  exact ⟨h2, hok.keep k2, hz, (h.kb.set_ 0 _).set_ 1 _, h.k3.trans k2, below_set (below_set h.below hg) hg⟩
/-- While a row is put between those that are reduced already. -/
structure In2 (w W2 wr : World) (n sz : Nat) (x : S41) (ts : List Eq4) (j : Nat) (vN : Value) (put : Bool) (ns : List Eq4) : Prop where
  rN : kEq.R 81 wr W2.heap.size (fun _ => True) vN ns
  below : Below W2.heap.size W2 wr
  ok : ∀ t ∈ ns, RowOk w.heap.size wr t ∧ t.b.size = sz
  eq : (ns.map Eq4.s, put) = ((ts.take j).map Eq4.s).foldl (red2 n x) ([], false)
  cnt : ns.length = j + put.toNat
/-- The round's second half: what is read of the row and its partner, and what has been put. -/
structure In3 (w W2 wr : World) (gx gy sz : Nat) (x y : Eq4) (vN : Value) (ns : List Eq4) : Prop where
  bx : wr.heap[gx]? = some (.cells #[.slice x.A x.l.length x.c, .string x.b] 81 (0, 0))
  by_ : wr.heap[gy]? = some (.cells #[.slice y.A y.l.length y.c, .string y.b] 81 (0, 0))
  ok : RowOk w.heap.size wr y ∧ y.b.size = sz
  rN : kEq.R 81 wr W2.heap.size (fun k => k ≠ gy) vN ns
  below : Below W2.heap.size W2 wr
  k3 : K3 w.heap.size W2 wr
theorem In3.later {w W2 wr w1 : World} {gx gy sz : Nat} {x y : Eq4} {vN : Value} {ns : List Eq4} (h : In3 w W2 wr gx gy sz x y vN ns) (hb : Below wr.heap.size wr w1) : In3 w W2 w1 gx gy sz x y vN ns where
  bx := (hb.block gx (Array.getElem?_eq_some_iff.1 h.bx).1).trans h.bx
  by_ := (hb.block gy (Array.getElem?_eq_some_iff.1 h.by_).1).trans h.by_
  ok := ⟨h.ok.1.keep (K3.below hb), h.ok.2⟩
  rN := Kd.R_below h.rN hb
  below := below_step h.below hb
  k3 := h.k3.trans (K3.below hb)
theorem In3.grown {w W2 wr w1 : World} {gx gy sz : Nat} {x y : Eq4} {vN v1 : Value} {ns ns1 : List Eq4} (h : In3 w W2 wr gx gy sz x y vN ns) (hB : w.heap.size ≤ W2.heap.size) (hx : gx < W2.heap.size)
    (hr : kEq.R 81 w1 W2.heap.size (fun k => k ≠ gy) v1 ns1) (hb : Below W2.heap.size W2 w1) (hg : wr.grownBy w1 vN.ownBlock) : In3 w W2 w1 gx gy sz x y v1 ns1 := by
  have k3 : K3 w.heap.size wr w1 := K3.of_R (B := w.heap.size) h.rN (by decide) hB hg
  exact {
    bx := (hg.block gx (Array.getElem?_eq_some_iff.1 h.bx).1 (fun e => by have := Kd.R_base h.rN gx e.symm; omega)).trans h.bx
    by_ := (hg.block gy (Array.getElem?_eq_some_iff.1 h.by_).1 (fun e => by have := h.rN.1 gy e.symm; exact this rfl)).trans h.by_
    ok := ⟨h.ok.1.keep k3, h.ok.2⟩
    rN := hr
    below := hb
    k3 := h.k3.trans k3 }
/-- Behind the second inner loop. -/
structure In4 (w W2 wx : World) (sz : Nat) (AL AE : Option Addr) (lL cL cE : Nat) (E : List ByteArray) (v : Value) (ns : List Eq4) : Prop where
  rN : kEq.R 81 wx W2.heap.size (fun _ => True) v ns
  rE : Kd.R Kd.string 9 wx w.heap.size (fun _ => True) (.slice AE E.length cE) E
  b5 : wx.heap[w.heap.size + 1]? = some (.cells #[.slice AL lL cL, .slice AE E.length cE] 83 (0, 0))
  b4 : wx.heap[w.heap.size]? = some (.cells #[.slice none 0 0, .slice none 0 0] 83 (0, 0))
  below : Below w.heap.size w wx
  k3 : K3 w.heap.size w wx
  ok : ∀ t ∈ ns, RowOk w.heap.size wx t ∧ t.b.size = sz
theorem In4.grown {w W2 wr w1 : World} {sz : Nat} {AL AE : Option Addr} {lL cL cE : Nat} {E : List ByteArray} {v v1 : Value} {ns : List Eq4} {x : Eq4} (h : In4 w W2 wr sz AL AE lL cL cE E v ns) (hB : w.heap.size ≤ W2.heap.size) (h2 : w.heap.size + 1 < W2.heap.size)
    (hr : kEq.R 81 w1 W2.heap.size (fun _ => True) v1 (ns ++ [x])) (hb : Below w.heap.size w w1) (hg : wr.grownBy w1 v.ownBlock) (hx : RowOk w.heap.size wr x ∧ x.b.size = sz) : In4 w W2 w1 sz AL AE lL cL cE E v1 (ns ++ [x]) := by
  have k3 : K3 w.heap.size wr w1 := K3.of_R (B := w.heap.size) h.rN (by decide) hB hg
  exact {
    rN := hr
    rE := Kd.R_over (Kd.R_mono (Kd.R_bound h.rE) (fun _ _ => trivial)) (Kd.R_lower h.rN hB) (fun q hq => by simp [Kd.string, Kd.scalar] at hq; omega) hg
    b5 := (hg.block _ (Array.getElem?_eq_some_iff.1 h.b5).1 (fun e => by have := Kd.R_base h.rN _ e.symm; omega)).trans h.b5
    b4 := (hg.block _ (Array.getElem?_eq_some_iff.1 h.b4).1 (fun e => by have := Kd.R_base h.rN _ e.symm; omega)).trans h.b4
    below := hb
    k3 := h.k3.trans k3
    ok := fun t ht => by
      rcases List.mem_append.1 ht with ht | ht
      · exact ⟨(h.ok t ht).1.keep k3, (h.ok t ht).2⟩
      · rw [List.mem_singleton.1 ht]; exact ⟨hx.1.keep k3, hx.2⟩ }
theorem info81' : (Try.prog.info? 81).map (fun i => (i.zero, i.size, i.bytes)) = some (some (.agg #[.slice none 0 0, .string ⟨#[]⟩]), 2, 40) := by kernel_rfl
set_option maxHeartbeats 1500000 in
set_option maxRecDepth 100000 in
theorem refReduce_calls (n : Nat) (hn : n ≤ 160) (sz : Nat) (hsz : sz ≤ 64) (A1 : Option Addr) (c1 : Nat) (ins : List Eq4) (w : World) (hr : kEq.C w A1 ins.length ins) (hl : ins.length ≤ 400)
    (hok : ∀ t ∈ ins, RowOk w.heap.size w t ∧ t.b.size = sz) :
    Calls Try.prog 42 #[.int .i64 n, .slice A1 ins.length c1] w fun e w' => ∃ (vL vE : Value) (ts : List Eq4), e = .returned (.agg #[vL, vE]) ∧ kEq.R 81 w' w.heap.size (fun _ => True) vL ts ∧
      Kd.R Kd.string 9 w' w.heap.size (fun _ => True) vE (redR n (ins.map Eq4.s)).2 ∧ ts.map Eq4.s = (redR n (ins.map Eq4.s)).1 ∧ (∀ t ∈ ts, RowOk w.heap.size w' t) ∧ Below w.heap.size w w' := by
  have HR := Aside0.mk hr
  have HOK := Aside0.mk hok
  have HN := Aside0.mk hn
  have hl' : (ins.length : Int) ≤ 400 := by omega
  have hb1 := heap_alloc2_old w (.cells #[.slice none 0 0, .slice none 0 0] 83) (.cells #[.slice none 0 0, .slice none 0 0] 83)
  have hb2 := heap_alloc2_new w (.cells #[.slice none 0 0, .slice none 0 0] 83) (.cells #[.slice none 0 0, .slice none 0 0] 83)
  have hbel := below_alloc (below_alloc (Below.refl w.heap.size w) (.cells #[.slice none 0 0, .slice none 0 0] 83)) (.cells #[.slice none 0 0, .slice none 0 0] 83)
  have H0 : Aside0 (RrW w ((w.alloc (.cells #[.slice none 0 0, .slice none 0 0] 83)).alloc (.cells #[.slice none 0 0, .slice none 0 0] 83)) n sz ins 0 (.slice none 0 0) (.slice none 0 0) [] []) :=
    ⟨⟨hb1, hb2, Kd.R_nil _ _ _ _ _, Kd.R_nil _ _ _ _ _, rfl, (fun _ h => by cases h), Nat.le_refl _, hbel, K3.below hbel⟩⟩
  clear hr hok hn hb1 hb2 hbel
  go_enter Try.func42, Try.ntmps42
  go_wp2_with fail
  go_loopw [6] (fun v6 wr => ∃ (k : Nat) (vL vE : Value) (ts : List Eq4) (E : List ByteArray), k ≤ ins.length ∧ v6 = .int .i64 k ∧ Aside0 (RrW w wr n sz ins k vL vE ts E)) (fun v6 _ => ins.length - (intOf v6).toNat)
  case atStart => exact ⟨0, _, _, [], [], by omega, rfl, H0⟩
  case round =>
    obtain ⟨k, vL, vE, ts, E, hk, rfl, HA⟩ := hrel
    by_cases hlt : k < ins.length
    · obtain ⟨x0, hx0⟩ : ∃ x0, x0 = ins.getD k zEq := ⟨_, rfl⟩
      obtain ⟨ad, e, d0, d1⟩ := at_eqg (Kd.C_below HR.out HA.out.below) k hlt rfl x0 hx0
      subst e
      have hxm : x0 ∈ ins := by rw [hx0, List.getD_eq_getElem?_getD, List.getElem?_eq_getElem hlt]; exact List.getElem_mem _
      have HX0 := Aside0.mk (And.intro ((HOK.out x0 hxm).1.keep HA.out.k3) (HOK.out x0 hxm).2)
      have HE0 : Aside0 (((ins.map Eq4.s).take (k + 1)).foldl (redS n) ([], []) = redS n (ts.map Eq4.s, E) x0.s) := ⟨by
        rw [List.take_succ_eq_append_getElem (by rw [List.length_map]; exact hlt), List.foldl_append, ← HA.out.eq, hx0]
        simp [List.getD_eq_getElem?_getD, hlt]⟩
      have hlt' : (k : Int) < (ins.length : Int) := by omega
      obtain ⟨AL, cL, eL⟩ := Kd.R_slice HA.out.rL
      subst eL
      obtain ⟨AE, cE, eE⟩ := Kd.R_slice HA.out.rE
      subst eE
      obtain ⟨gx, hgx⟩ : ∃ gx, gx = wr.heap.size := ⟨_, rfl⟩
      obtain ⟨W1, hW1⟩ : ∃ W1, W1 = wr.alloc (.cells #[.slice x0.A x0.l.length x0.c, .string x0.b] 81) := ⟨_, rfl⟩
      have hbW : Below wr.heap.size wr W1 := by rw [hW1]; exact below_alloc (Below.refl _ wr) _
      have hB1 : w.heap.size + 1 < gx := by rw [hgx]; exact (Array.getElem?_eq_some_iff.1 HA.out.box).1
      have HB1 := Aside0.mk hB1
      have HI0 : Aside0 (In1 w W1 W1 gx sz x0) := ⟨⟨by rw [hW1, hgx]; exact heap_alloc_new _ _, HX0.out.1.keep (K3.below hbW), HX0.out.2, KeepBut.refl _ _ _, K3.refl _ _, below_step HA.out.below hbW⟩⟩
      have HL1 : Aside0 (kEq.R 81 W1 w.heap.size (fun k => k ≠ gx) (.slice AL ts.length cL) ts) := ⟨Kd.R_below (Kd.R_mono (Kd.R_bound HA.out.rL) (fun k hk => by have := hk.2.2.1; omega)) hbW⟩
      have HE1 : Aside0 (Kd.R Kd.string 9 W1 w.heap.size (fun k => k ≠ gx) (.slice AE E.length cE) E) := ⟨Kd.R_below (Kd.R_mono (Kd.R_bound HA.out.rE) (fun k hk => by have := hk.2.2.1; omega)) hbW⟩
      have HB5 : Aside0 (W1.heap[w.heap.size + 1]? = some (.cells #[.slice AL ts.length cL, .slice AE E.length cE] 83 (0, 0))) := ⟨(hbW.block _ (Array.getElem?_eq_some_iff.1 HA.out.box).1).trans HA.out.box⟩
      have HB4 : Aside0 (W1.heap[w.heap.size]? = some (.cells #[.slice none 0 0, .slice none 0 0] 83 (0, 0))) := ⟨(hbW.block _ (Array.getElem?_eq_some_iff.1 HA.out.res).1).trans HA.out.res⟩
      have HTS : Aside0 (∀ t ∈ ts, RowOk w.heap.size W1 t ∧ t.b.size = sz) := ⟨fun t ht => ⟨(HA.out.ok t ht).1.keep (K3.below hbW), (HA.out.ok t ht).2⟩⟩
      have HK3 : Aside0 (K3 w.heap.size w W1) := ⟨HA.out.k3.trans (K3.below hbW)⟩
      have HCN := Aside0.mk HA.out.cnt
      have hcn : (ts.length : Int) ≤ 400 := by have := HCN.out; omega
      clear hx0 hxm hbW hB1
      go_wp2_with fail
      rw [← hgx, ← hW1]
      clear hgx hW1 HA HX0
      go_loopw [8] (fun v8 wr => ∃ (j : Nat) (x : Eq4), j ≤ ts.length ∧ v8 = .int .i64 j ∧ Aside0 (In1 w W1 wr gx sz x) ∧ Aside0 (x.s = red1 n x0.s ((ts.take j).map Eq4.s))) (fun v8 _ => ts.length - (intOf v8).toNat)
      case atStart => exact ⟨0, x0, by omega, rfl, HI0, ⟨rfl⟩⟩
      case round =>
        obtain ⟨j, x, hj, rfl, HI, HQ⟩ := hrel
        obtain ⟨c0, c1, cf⟩ := cell2 HI.out.box
        have hb5 := HI.out.kb.blk HB5.out (by have := HB1.out; omega) (by simp)
        obtain ⟨b0, b1, -⟩ := cell2 hb5
        by_cases hlt2 : j < ts.length
        · obtain ⟨y, hy⟩ : ∃ y, y = ts.getD j zEq := ⟨_, rfl⟩
          have HLr := Aside0.mk (Kd.R_keep HL1.out HI.out.kb (fun k hk => hk))
          obtain ⟨ady, ey, y0, y1⟩ := at_eqg (Kd.R_reads' HLr.out).2.2 j hlt2 rfl y hy
          subst ey
          have hym : y ∈ ts := by rw [hy, List.getD_eq_getElem?_getD, List.getElem?_eq_getElem hlt2]; exact List.getElem_mem _
          have HY := Aside0.mk (And.intro ((HTS.out y hym).1.keep HI.out.k3) (HTS.out y hym).2)
          have HYW := Aside0.mk (HTS.out y hym)
          have HYT := Aside0.mk hy
          have HF := Aside0.mk (fun (W : World) (hb : Below wr.heap.size wr W) => firstR_calls w.heap.size n y W (HY.out.1.keep (K3.below hb)))
          have HH := Aside0.mk (fun (W : World) (hb : Below wr.heap.size wr W) => hasR_calls w.heap.size (firstB n y.l) x W (HI.out.ok.keep (K3.below hb)))
          have HQ1 : Aside0 (red1 n x0.s ((ts.take (j + 1)).map Eq4.s) = if hasB x.l (firstB n y.l) then plusB n x.s y.s else x.s) := ⟨by
            rw [List.take_succ_eq_append_getElem hlt2, List.map_append, red1, List.foldl_append]
            have : y = ts[j] := by rw [hy, List.getD_eq_getElem?_getD, List.getElem?_eq_getElem hlt2]; rfl
            rw [← this]
            show (if hasB (red1 n x0.s ((ts.take j).map Eq4.s)).f0 (firstB n y.s.f0) then plusB n (red1 n x0.s ((ts.take j).map Eq4.s)) y.s else red1 n x0.s ((ts.take j).map Eq4.s)) = _
            rw [← HQ.out]
            rfl⟩
          have hlt3 : (j : Int) < (ts.length : Int) := by omega
          obtain ⟨bb, hbb⟩ : ∃ bb, hasB x.l (firstB n y.l) = bb := ⟨_, rfl⟩
          rw [hbb] at HH HQ1
          obtain ⟨fy, hfy⟩ : ∃ fy, fy = firstB n y.l := ⟨_, rfl⟩
          rw [← hfy] at HF HH
          have hd1 := below_drew1 (Below.refl wr.heap.size wr)
          have HD1 := Aside0.mk hd1
          clear hy hym hb5 hbb hfy hd1
          go_wp2_with fail
          go_region_law (first
            | (go_simp; go_at_call 80; refine (HF.out _ HD1.out).mono ?_; rintro e w3 ⟨rfl, hb3⟩; have HI1 := Aside0.mk (HI.out.later (below_step HD1.out hb3)); have HD2 := Aside0.mk (below_step HD1.out hb3); obtain ⟨c0', c1', -⟩ := cell2 HI1.out.box; clear hb3)
            | (go_simp; go_at_call 19; refine (HH.out _ HD2.out).mono ?_; rintro e w4 ⟨rfl, hd4⟩; have HI2 := Aside0.mk (HI1.out.later hd4.below); clear hd4 HI1 HD2))
          all_goals
            clear HF HH HI HLr HY HD1 c0 c1 cf b0 b1 y0 y1
            try clear c0' c1'
            cases bb with
            | false =>
              have HQ2 : Aside0 (x.s = red1 n x0.s ((ts.take (j + 1)).map Eq4.s)) := ⟨by rw [HQ1.out]; rfl⟩
              clear HQ HQ1
              go_wp2_with fail
              go_roundw
              case rel => exact ⟨j + 1, x, by omega, by go_num, HI2, HQ2⟩
              case measure => simp [intOf]; omega
            | true =>
              have HQ2 : Aside0 (red1 n x0.s ((ts.take (j + 1)).map Eq4.s) = plusB n x.s y.s) := ⟨by rw [HQ1.out]; rfl⟩
              obtain ⟨c0, c1, cf⟩ := cell2 HI2.out.box
              obtain ⟨b0, b1, -⟩ := cell2 (HI2.out.kb.blk HB5.out (by have := HB1.out; omega) (by simp))
              obtain ⟨_, ey, y0, y1⟩ := at_eqg (Kd.R_reads' (Kd.R_keep HL1.out HI2.out.kb (fun k hk => hk))).2.2 j hlt2 rfl y HYT.out
              cases ey
              have hd1 := below_drew1 (Below.refl w4.heap.size w4)
              have HPL := Aside0.mk (plusR_calls w.heap.size n (by have := HN.out; omega) x y w4.drew (HI2.out.ok.keep (K3.below hd1)) ((HYW.out.1.keep HI2.out.k3).keep (K3.below hd1)) (HI2.out.sz.trans HYW.out.2.symm) (by rw [HI2.out.sz]; omega))
              have HI3 := Aside0.mk (HI2.out.later hd1)
              clear HQ HQ1 hd1 HI2
              go_wp2_with fail
              refine still_tail 7 (by kernel_rfl) (by kernel_rfl) ?_
              simp only [List.take_succ_cons, List.take_zero, List.drop_succ_cons, List.drop_zero]
              repeat still_step
              refine wpStill_nil ?_
              go_wp2_with fail
              refine HPL.out.mono ?_
              rintro e w5 ⟨u, rfl, hus, hur, hb5⟩
              have HI4 := Aside0.mk (HI3.out.later hb5)
              have hz : u.b.size = sz := by
                have : u.b = xorB x.b y.b := congrArg S41.f1 hus
                rw [this]
                exact xorB_size HI3.out.sz HYW.out.2
              have HI5 := Aside0.mk (HI4.out.put (x' := u) (by have := HB1.out; omega) hur hz)
              have HQ3 : Aside0 (u.s = red1 n x0.s ((ts.take (j + 1)).map Eq4.s)) := ⟨by rw [HQ2.out]; exact hus⟩
              obtain ⟨c0, c1, cf⟩ := cell2 HI4.out.box
              clear HPL HI3 hus hur hb5 hz HQ2 b0 b1 y0 y1
              go_wp2_with fail
              go_roundw
              case rel => exact ⟨j + 1, u, by omega, by go_num, HI5, HQ3⟩
              case measure => simp [intOf]; omega
        · obtain rfl : j = ts.length := by omega
          have HQL : Aside0 (x.s = red1 n x0.s (ts.map Eq4.s)) := ⟨by have := HQ.out; rwa [List.take_length] at this⟩
          clear HQ hj hlt2
          by_cases hx0 : x.l.length = 0
          · have hx1 : (x.l.length : Int) = 0 := by omega
            have HLr := Aside0.mk (Kd.R_keep HL1.out HI.out.kb (fun k hk => hk))
            have HEr := Aside0.mk (Kd.R_keep HE1.out HI.out.kb (fun k hk => hk))
            have HB5r : Aside0 (wr.heap[w.heap.size + 1]? = some (.cells #[.slice AL ts.length cL, .slice AE E.length cE] 83 (0, 0))) := ⟨HI.out.kb.blk HB5.out (by have := HB1.out; omega) (by simp)⟩
            have HB4r : Aside0 (wr.heap[w.heap.size]? = some (.cells #[.slice none 0 0, .slice none 0 0] 83 (0, 0))) := ⟨HI.out.kb.blk HB4.out (by have := HB1.out; omega) (by simp)⟩
            have hgl : gx < wr.heap.size := (Array.getElem?_eq_some_iff.1 HI.out.box).1
            have HGL := Aside0.mk hgl
            have HS : Aside0 (redS n (ts.map Eq4.s, E) x0.s = (ts.map Eq4.s, E ++ [x.b])) := ⟨by
              unfold redS
              dsimp only
              rw [← HQL.out, if_pos (show x.s.f0.length = 0 from hx0)]
              rfl⟩
            clear hx0 hgl
            go_wp2_with ((with_reducible refine gate_builtin (b := .append) (xs := #[.tmp 53, .tmp 56]) rfl ?_); at_builtin; refine Kd.R_append Kd.string (w0 := w) w.heap.size rfl (.tmp 53) (.tmp 56) 25 9 (.string ⟨#[]⟩) 16 rfl Try.underlying25 info9 rfl (by decide) (by omega) (.slice AE E.length cE) E x.b [.string x.b] (fun k => k ≠ gx) (fun _ => False) rfl rfl rfl (fun _ hk => hk.elim) (fun k hk => by have := HGL.out; omega) HEr.out HI.out.below HI.out.below.size (by have := HCN.out; omega) ?_; intro v7 w7 hr7 hb7 hg7 hat7; have H7 := Aside0.mk hr7; have H8 := Aside0.mk hb7; have H9 := Aside0.mk (Kd.R_over HLr.out HEr.out (kEq_ne 9 (by decide)) hg7); have HX3 := Aside0.mk (K3.of_R (B := w.heap.size) HEr.out (by decide) (Nat.le_refl _) hg7); have HB5s := Aside0.mk ((hg7.block _ (Array.getElem?_eq_some_iff.1 HB5r.out).1 (Kd.R_ne HEr.out HB5r.out (by decide))).trans HB5r.out); have HB4s := Aside0.mk ((hg7.block _ (Array.getElem?_eq_some_iff.1 HB4r.out).1 (Kd.R_ne HEr.out HB4r.out (by decide))).trans HB4r.out); obtain ⟨e0, e1, ef⟩ := cell2 HB5s.out; obtain ⟨A7, c7, e7⟩ := Kd.R_slice hr7; subst e7; clear hr7 hb7 hg7 hat7)
            have hk1 : K3 w.heap.size w7 (w7.setCell ⟨w.heap.size + 1, 1, none⟩ (.slice A7 (E.length + 1) c7)) := K3.set HB5s.out (by decide) (by omega) 1 _
            have hk2 := (HI.out.k3.trans HX3.out).trans hk1
            have hr7 := H7.out
            rw [List.length_append] at hr7
            refine ⟨⟨k + 1, .slice AL ts.length cL, .slice A7 (E.length + 1) c7, ts, E ++ [x.b], by omega, by go_num, ⟨?_⟩⟩, by simp [intOf]; omega⟩
            exact {
              res := (Below.heap_setCell w7 ⟨w.heap.size + 1, 1, none⟩ _ w.heap.size (by simp)).trans HB4s.out
              box := blk_put HB5s.out 1 _ rfl
              rL := Kd.R_mono (Kd.R_set H9.out HB5s.out (kEq_ne 83 (by decide)) 1 _) (fun _ _ => trivial)
              rE := Kd.R_mono (Kd.R_set hr7 HB5s.out (by decide) 1 _) (fun _ _ => trivial)
              eq := by rw [HE0.out, HS.out]
              ok := fun t ht => ⟨(HTS.out t ht).1.keep hk2, (HTS.out t ht).2⟩
              cnt := by rw [List.length_append]; have := HCN.out; show ts.length + (E.length + 1) ≤ k + 1; omega
              below := below_set H8.out (by omega)
              k3 := HK3.out.trans hk2 }
          · have hx1 : ¬ (x.l.length : Int) = 0 := by omega
            have hx2 : ((x.l.length : Int) == 0) = false := by simpa using hx0
            have HXN := Aside0.mk hx0
            obtain ⟨W2, hW2⟩ : ∃ W2, W2 = wr := ⟨_, rfl⟩
            rw [← hW2] at HI c0 c1 cf b0 b1 ⊢
            have HG2 : Aside0 (w.heap.size ≤ W2.heap.size ∧ gx < W2.heap.size) := ⟨HI.out.below.size, (Array.getElem?_eq_some_iff.1 HI.out.box).1⟩
            have HL2 := Aside0.mk (Kd.R_keep HL1.out HI.out.kb (fun k hk => hk))
            have HB5r : Aside0 (W2.heap[w.heap.size + 1]? = some (.cells #[.slice AL ts.length cL, .slice AE E.length cE] 83 (0, 0))) := ⟨HI.out.kb.blk HB5.out (by have := HB1.out; omega) (by simp)⟩
            have HT2 : Aside0 (∀ t ∈ ts, RowOk w.heap.size W2 t ∧ t.b.size = sz) := ⟨fun t ht => ⟨(HTS.out t ht).1.keep HI.out.k3, (HTS.out t ht).2⟩⟩
            clear hx0 hW2
            go_wp2_with fail
            clear c0 c1 cf b0 b1
            go_loopw [9, 10, 11] (fun v9 v10 v11 wr => ∃ (j : Nat) (put : Bool) (ns : List Eq4), j ≤ ts.length ∧ v10 = .bool put ∧ v11 = .int .i64 j ∧ Aside0 (In2 w W2 wr n sz x.s ts j v9 put ns)) (fun _ _ v11 _ => ts.length - (intOf v11).toNat)
            case atStart => exact ⟨0, false, [], by omega, rfl, rfl, ⟨⟨Kd.R_nil _ _ _ _ _, Below.refl _ _, (fun _ h => by cases h), rfl, rfl⟩⟩⟩
            case round =>
              obtain ⟨j, put, ns, hj, rfl, rfl, HJ⟩ := hrel
              have hb5 := (HJ.out.below.block _ (Array.getElem?_eq_some_iff.1 HB5r.out).1).trans HB5r.out
              obtain ⟨b0, b1, -⟩ := cell2 hb5
              have hbx := (HJ.out.below.block gx HG2.out.2).trans HI.out.box
              obtain ⟨c0, c1, -⟩ := cell2 hbx
              by_cases hlt2 : j < ts.length
              · obtain ⟨y, hy⟩ : ∃ y, y = ts.getD j zEq := ⟨_, rfl⟩
                obtain ⟨ady, ey, y0, y1⟩ := at_eqg (Kd.R_reads' (Kd.R_below HL2.out HJ.out.below)).2.2 j hlt2 rfl y hy
                subst ey
                have hym : y ∈ ts := by rw [hy, List.getD_eq_getElem?_getD, List.getElem?_eq_getElem hlt2]; exact List.getElem_mem _
                obtain ⟨W3, hW3⟩ : ∃ W3, W3 = wr.alloc (.cells #[.slice y.A y.l.length y.c, .string y.b] 81) := ⟨_, rfl⟩
                obtain ⟨gy, hgy⟩ : ∃ gy, gy = wr.heap.size := ⟨_, rfl⟩
                have hbW : Below wr.heap.size wr W3 := by rw [hW3]; exact below_alloc (Below.refl _ wr) _
                have HBW := Aside0.mk hbW
                have HYB : Aside0 (W3.heap[gy]? = some (.cells #[.slice y.A y.l.length y.c, .string y.b] 81 (0, 0))) := ⟨by rw [hW3, hgy]; exact heap_alloc_new _ _⟩
                have HXB : Aside0 (W3.heap[gx]? = some (.cells #[.slice x.A x.l.length x.c, .string x.b] 81 (0, 0))) := ⟨(hbW.block gx (Array.getElem?_eq_some_iff.1 hbx).1).trans hbx⟩
                have HY : Aside0 (RowOk w.heap.size W3 y ∧ y.b.size = sz) := ⟨(HT2.out y hym).1.keep ((K3.below HJ.out.below).trans (K3.below hbW)), (HT2.out y hym).2⟩
                have HX : Aside0 (RowOk w.heap.size W3 x) := ⟨HI.out.ok.keep ((K3.below HJ.out.below).trans (K3.below hbW))⟩
                have HF := Aside0.mk (fun (W : World) (hb : Below W3.heap.size W3 W) => firstR_calls w.heap.size n x W (HX.out.keep (K3.below hb)))
                have HH := Aside0.mk (fun (W : World) (hb : Below W3.heap.size W3 W) => hasR_calls w.heap.size (firstB n x.l) y W (HY.out.1.keep (K3.below hb)))
                obtain ⟨bb, hbb⟩ : ∃ bb, hasB y.l (firstB n x.l) = bb := ⟨_, rfl⟩
                rw [hbb] at HH
                have HBB := Aside0.mk hbb
                obtain ⟨fx, hfx⟩ : ∃ fx, fx = firstB n x.l := ⟨_, rfl⟩
                rw [← hfx] at HF HH
                have HFX := Aside0.mk hfx
                have HYT := Aside0.mk hy
                have hlt3 : (j : Int) < (ts.length : Int) := by omega
                have hd1 := below_drew1 (Below.refl W3.heap.size W3)
                have HD1 := Aside0.mk hd1
                have HN3 : Aside0 (kEq.R 81 W3 W2.heap.size (fun k => k ≠ gy) u9 ns) := ⟨Kd.R_below (Kd.R_mono (Kd.R_bound HJ.out.rN) (fun k hk => by have := hk.2.2.1; omega)) hbW⟩
                have HI3 : Aside0 (In1 w W3 W3 gy sz y) := ⟨⟨HYB.out, HY.out.1, HY.out.2, KeepBut.refl _ _ _, K3.refl _ _, below_step (below_step HI.out.below HJ.out.below) hbW⟩⟩
                have HNE : Aside0 (gx ≠ gy) := ⟨by have := HG2.out.2; have := HJ.out.below.size; omega⟩
                have HJW : Aside0 (Below W2.heap.size W2 W3) := ⟨below_step HJ.out.below hbW⟩
                clear hy hym hb5 hbx hbW hbb hfx hd1
                go_wp2_with fail
                rw [← hgy, ← hW3]
                have HGY : Aside0 (W2.heap.size ≤ gy) := ⟨by rw [hgy]; exact HJ.out.below.size⟩
                clear c0 c1 b0 b1 y0 y1 hgy hW3
                obtain ⟨c0, c1, -⟩ := cell2 HXB.out
                obtain ⟨y0, y1, -⟩ := cell2 HYB.out
                go_region_held3 (fun w' : World => w'.cell? ⟨gx, 0, none⟩ = some (.slice x.A x.l.length x.c) ∧ w'.cell? ⟨gx, 1, none⟩ = some (.string x.b) ∧ w'.cell? ⟨gy, 0, none⟩ = some (.slice y.A y.l.length y.c)) (first | exact ⟨‹_›, ‹_›, ‹_›⟩ | go_keep) (first | (go_at_call 80; refine (HF.out _ HD1.out).mono ?_; rintro e w3 ⟨rfl, hb3⟩; have HD2 := Aside0.mk (below_step HD1.out hb3); obtain ⟨c0', c1', -⟩ := cell2 ((HD2.out.block gx (Array.getElem?_eq_some_iff.1 HXB.out).1).trans HXB.out); obtain ⟨y0', y1', -⟩ := cell2 ((HD2.out.block gy (Array.getElem?_eq_some_iff.1 HYB.out).1).trans HYB.out); clear hb3) | (go_at_call 19; refine (HH.out _ HD2.out).mono ?_; rintro e w4 ⟨rfl, hd4⟩; have HD3 := Aside0.mk (below_step HD2.out hd4.below); obtain ⟨c0'', c1'', -⟩ := cell2 ((HD3.out.block gx (Array.getElem?_eq_some_iff.1 HXB.out).1).trans HXB.out); obtain ⟨y0'', y1'', -⟩ := cell2 ((HD3.out.block gy (Array.getElem?_eq_some_iff.1 HYB.out).1).trans HYB.out); clear hd4))
                clear c0 c1 y0 y1 c0' c1' y0' y1' c0'' c1'' y0'' y1'' HF HH
                have HI4 := Aside0.mk (HI3.out.later HD3.out)
                have HB4 := Aside0.mk (below_step HJW.out HD3.out)
                go_upto_if 76 with (fail)
                go_cut [] (fun wx => ∃ y' : Eq4, Aside0 (In1 w W3 wx gy sz y' ∧ Below W2.heap.size W2 wx ∧ y'.s = if bb then plusB n y.s x.s else y.s))
                case first =>
                  cases bb with
                  | false =>
                    go_wp2_with fail
                    go_meet
                    case rel => exact ⟨y, ⟨HI4.out, HB4.out, by simp⟩⟩
                  | true =>
                    obtain ⟨y0, y1, yf⟩ := cell2 HI4.out.box
                    obtain ⟨c0, c1, -⟩ := cell2 (HI4.out.kb.blk HXB.out HNE.out (by simp))
                    have HPL := Aside0.mk (plusR_calls w.heap.size n (by have := HN.out; omega) y x w4 HI4.out.ok (HX.out.keep (K3.below HD3.out)) (HI4.out.sz.trans HI.out.sz.symm) (by rw [HI4.out.sz]; omega))
                    go_wp2_with fail
                    refine HPL.out.mono ?_
                    rintro e w5 ⟨u, rfl, hus, hur, hb5⟩
                    have HI5 := Aside0.mk (HI4.out.later hb5)
                    have hz : u.b.size = sz := by
                      have : u.b = xorB y.b x.b := congrArg S41.f1 hus
                      rw [this]
                      exact xorB_size HI4.out.sz HI.out.sz
                    have HI6 := Aside0.mk (HI5.out.put (x' := u) (by have := HGY.out; have := HG2.out.1; omega) hur hz)
                    have HB6 := Aside0.mk (below_set (g := gy) (j := 1) (v := .string u.b) (below_set (g := gy) (j := 0) (v := .slice u.A u.l.length u.c) (below_step HB4.out hb5) HGY.out) HGY.out)
                    have HUS := Aside0.mk hus
                    obtain ⟨y0, y1, yf⟩ := cell2 HI5.out.box
                    clear hur hb5 hz hus HPL c0 c1
                    go_wp2_with fail
                    go_meet
                    case rel => exact ⟨u, ⟨HI6.out, HB6.out, by rw [HUS.out]; rfl⟩⟩
                case rest =>
                  obtain ⟨y2, HC⟩ := hcut
                  obtain ⟨wa, rfl⟩ : ∃ wa : World, wa = wc := ⟨_, rfl⟩
                  have H3 : Aside0 (In3 w W2 wa gx gy sz x y2 u9 ns) := ⟨{
                    bx := HC.out.1.kb.blk HXB.out HNE.out (by simp)
                    by_ := HC.out.1.box
                    ok := ⟨HC.out.1.ok, HC.out.1.sz⟩
                    rN := Kd.R_keep HN3.out HC.out.1.kb (fun k hk => hk)
                    below := HC.out.2.1
                    k3 := (K3.below HJW.out).trans HC.out.1.k3 }⟩
                  have HY2 := Aside0.mk HC.out.2.2
                  have HXC : Aside0 (RowOk w.heap.size wa x) := ⟨HX.out.keep HC.out.1.k3⟩
                  have HKA : Aside0 (K3 w.heap.size wr wa) := ⟨(K3.below HBW.out).trans HC.out.1.k3⟩
                  clear HC HI3 HYB HXB HX HY HD1 HBW HJW HN3 HI4 HB4 HD2 HD3
                  obtain ⟨fy, hfy⟩ : ∃ fy, fy = firstB n y2.l := ⟨_, rfl⟩
                  have HFX4 := Aside0.mk (fun (W : World) (hb : Below wa.heap.size wa W) => firstR_calls w.heap.size n x W (HXC.out.keep (K3.below hb)))
                  have HFY4 := Aside0.mk (fun (W : World) (hb : Below wa.heap.size wa W) => firstR_calls w.heap.size n y2 W (H3.out.ok.1.keep (K3.below hb)))
                  rw [← HFX.out] at HFX4
                  rw [← hfy] at HFY4
                  have HFY := Aside0.mk hfy
                  clear hfy
                  go_upto_region 21 with (fail)
                  go_cut [91] (fun v91 wx => v91 = .bool (!put && decide (fx < fy)) ∧ Aside0 (Below wa.heap.size wa wx))
                  case first =>
                    cases put with
                    | true =>
                      go_region
                      go_wp2_with fail
                      go_meet
                      case rel => exact ⟨rfl, ⟨below_drew1 (Below.refl _ _)⟩⟩
                    | false =>
                      have HDa := Aside0.mk (below_drew1 (Below.refl wa.heap.size wa))
                      obtain ⟨c0, c1, -⟩ := cell2 H3.out.bx
                      obtain ⟨y0, y1, -⟩ := cell2 H3.out.by_
                      by_cases hlf : fx < fy
                      all_goals
                        go_wp2_with fail
                        go_region_held3 (fun w' : World => w'.cell? ⟨gx, 0, none⟩ = some (.slice x.A x.l.length x.c) ∧ w'.cell? ⟨gx, 1, none⟩ = some (.string x.b) ∧ w'.cell? ⟨gy, 0, none⟩ = some (.slice y2.A y2.l.length y2.c) ∧ w'.cell? ⟨gy, 1, none⟩ = some (.string y2.b)) (first | exact ⟨‹_›, ‹_›, ‹_›, ‹_›⟩ | go_keep) (first | (go_at_call 80; (first | (with_reducible refine (HFX4.out _ HDb.out).mono ?_) | (with_reducible refine (HFY4.out _ HDb.out).mono ?_)); rintro e w6 ⟨rfl, hb6⟩; have HDc := Aside0.mk (below_step HDb.out hb6); obtain ⟨p0', p1', -⟩ := cell2 ((HDc.out.block gx (Array.getElem?_eq_some_iff.1 H3.out.bx).1).trans H3.out.bx); obtain ⟨q0', q1', -⟩ := cell2 ((HDc.out.block gy (Array.getElem?_eq_some_iff.1 H3.out.by_).1).trans H3.out.by_); clear hb6) | (go_at_call 80; (first | (with_reducible refine (HFX4.out _ HDa.out).mono ?_) | (with_reducible refine (HFY4.out _ HDa.out).mono ?_)); rintro e w5 ⟨rfl, hb5⟩; have HDb := Aside0.mk (below_step HDa.out hb5); obtain ⟨p0, p1, -⟩ := cell2 ((HDb.out.block gx (Array.getElem?_eq_some_iff.1 H3.out.bx).1).trans H3.out.bx); obtain ⟨q0, q1, -⟩ := cell2 ((HDb.out.block gy (Array.getElem?_eq_some_iff.1 H3.out.by_).1).trans H3.out.by_); clear hb5))
                        clear c0 c1 y0 y1 p0 p1 q0 q1 p0' p1' q0' q1'
                        go_wp2_with fail
                        go_meet
                        case rel => exact ⟨by simp [hlf], HDc⟩
                  case rest =>
                    obtain ⟨rfl, HB⟩ := hcut
                    obtain ⟨wb, rfl⟩ : ∃ wb : World, wb = wc := ⟨_, rfl⟩
                    have H4 := Aside0.mk (H3.out.later HB.out)
                    have HOK4 : Aside0 (∀ t ∈ ns, RowOk w.heap.size wb t ∧ t.b.size = sz) := ⟨fun t ht => ⟨(HJ.out.ok t ht).1.keep (HKA.out.trans (K3.below HB.out)), (HJ.out.ok t ht).2⟩⟩
                    have HXD : Aside0 (RowOk w.heap.size wb x) := ⟨HXC.out.keep (K3.below HB.out)⟩
                    have HG4 : Aside0 (∀ k, wb.heap.size ≤ k → k ≠ gy) := ⟨fun k hk => by have := (Array.getElem?_eq_some_iff.1 H4.out.by_).1; omega⟩
                    have HXS : Aside0 (x.b.size = sz) := ⟨HI.out.sz⟩
                    have HCNT := Aside0.mk HJ.out.cnt
                    have HSE : Aside0 (((ts.take (j + 1)).map Eq4.s).foldl (red2 n x.s) ([], false) = (if (!put && decide (fx < fy)) then (ns.map Eq4.s ++ [x.s] ++ [y2.s], true) else (ns.map Eq4.s ++ [y2.s], put))) := ⟨by
                      rw [List.take_succ_eq_append_getElem hlt2, List.map_append, List.foldl_append, ← HJ.out.eq]
                      have : y = ts[j] := by rw [HYT.out, List.getD_eq_getElem?_getD, List.getElem?_eq_getElem hlt2]; rfl
                      rw [← this]
                      show red2 n x.s (ns.map Eq4.s, put) y.s = _
                      unfold red2
                      dsimp only
                      rw [show hasB y.s.f0 (firstB n x.s.f0) = bb from HBB.out, ← HY2.out, HFX.out, HFY.out]
                      rfl⟩
                    clear HXC HOK HT2 HKA H3 HFX4 HFY4 HB HJ
                    obtain ⟨q, hq⟩ : ∃ q, q = (!put && decide (fx < fy)) := ⟨_, rfl⟩
                    rw [← hq] at HSE ⊢
                    have HQQ := Aside0.mk hq
                    obtain ⟨c0, c1, -⟩ := cell2 H4.out.bx
                    clear hq
                    go_upto_if 91 with (fail)
                    go_cut [9, 10] (fun v9 v10 wx => ∃ (p : Bool) (ns' : List Eq4), v10 = .bool p ∧ Aside0 (In3 w W2 wx gx gy sz x y2 v9 ns' ∧ (ns'.map Eq4.s, p) = (if q then (ns.map Eq4.s ++ [x.s], true) else (ns.map Eq4.s, put)) ∧ ns'.length = j + p.toNat ∧ ∀ t ∈ ns', RowOk w.heap.size wx t ∧ t.b.size = sz))
                    case first =>
                      cases q with
                      | false =>
                        go_wp2_with fail
                        go_meet
                        case rel => exact ⟨put, ns, rfl, ⟨H4.out, rfl, HCNT.out, HOK4.out⟩⟩
                      | true =>
                        go_wp2_with ((with_reducible refine gate_builtin (b := .append) (xs := #[.tmp 92, .tmp 94]) rfl ?_); at_builtin; refine Kd.R_append kEq (w0 := W2) W2.heap.size rfl (.tmp 92) (.tmp 94) 77 81 (.agg #[.slice none 0 0, .string ⟨#[]⟩]) 40 rfl Try.underlying77 info81' rfl (by decide) (by omega) u9 ns x [.slice x.A x.l.length x.c, .string x.b] (fun k => k ≠ gy) (fun _ => False) rfl rfl rfl (fun _ hk => hk.elim) HG4.out H4.out.rN H4.out.below H4.out.below.size (by have := HCNT.out; have : put.toNat ≤ 1 := (by cases put <;> decide); omega) ?_; intro v7 w7 hr7 hb7 hg7 hat7; have H7 := Aside0.mk (H4.out.grown HG2.out.1 HG2.out.2 hr7 hb7 hg7); have HX3 := Aside0.mk (K3.of_R (B := w.heap.size) H4.out.rN (by decide) HG2.out.1 hg7); clear hr7 hb7 hg7 hat7)
                        go_meet
                        case rel => exact ⟨true, ns ++ [x], rfl, ⟨H7.out, by simp, by
                          have h1 := HQQ.out
                          cases put with
                          | true => cases h1
                          | false => have := HCNT.out; rw [List.length_append]; exact congrArg (· + 1) this, fun t ht => by
                          rcases List.mem_append.1 ht with ht | ht
                          · exact ⟨(HOK4.out t ht).1.keep HX3.out, (HOK4.out t ht).2⟩
                          · rw [List.mem_singleton.1 ht]; exact ⟨HXD.out.keep HX3.out, HXS.out⟩⟩⟩
                    case rest =>
                      obtain ⟨p, ns', rfl, HC⟩ := hcut
                      obtain ⟨wd, rfl⟩ : ∃ wd : World, wd = wc := ⟨_, rfl⟩
                      have H5 := Aside0.mk HC.out.1
                      have HE5 := Aside0.mk HC.out.2.1
                      have HN5 := Aside0.mk HC.out.2.2.1
                      have HO5 := Aside0.mk HC.out.2.2.2
                      have HG5 : Aside0 (∀ k, wd.heap.size ≤ k → k ≠ gy) := ⟨fun k hk => by have := (Array.getElem?_eq_some_iff.1 H5.out.by_).1; omega⟩
                      obtain ⟨y0, y1, -⟩ := cell2 H5.out.by_
                      clear HC c0 c1 H4 HOK4 HXD HG4
                      go_wp2_with ((with_reducible refine gate_builtin (b := .append) (xs := #[.tmp 96, .tmp 98]) rfl ?_); at_builtin; refine Kd.R_append kEq (w0 := W2) W2.heap.size rfl (.tmp 96) (.tmp 98) 77 81 (.agg #[.slice none 0 0, .string ⟨#[]⟩]) 40 rfl Try.underlying77 info81' rfl (by decide) (by omega) _ ns' y2 [.slice y2.A y2.l.length y2.c, .string y2.b] (fun k => k ≠ gy) (fun _ => False) rfl rfl rfl (fun _ hk => hk.elim) HG5.out H5.out.rN H5.out.below H5.out.below.size (by have := HN5.out; have : p.toNat ≤ 1 := (by cases p <;> decide); omega) ?_; intro v7 w7 hr7 hb7 hg7 hat7; have H7 := Aside0.mk hr7; have H8 := Aside0.mk hb7; have HX3 := Aside0.mk (K3.of_R (B := w.heap.size) H5.out.rN (by decide) HG2.out.1 hg7); clear hr7 hb7 hg7 hat7)
                      go_roundw
                      case rel => exact ⟨j + 1, p, ns' ++ [y2], by omega, rfl, by go_num, ⟨{
                        rN := Kd.R_mono H7.out (fun _ _ => trivial)
                        below := H8.out
                        ok := fun t ht => by
                          rcases List.mem_append.1 ht with ht | ht
                          · exact ⟨(HO5.out t ht).1.keep HX3.out, (HO5.out t ht).2⟩
                          · rw [List.mem_singleton.1 ht]; exact ⟨H5.out.ok.1.keep HX3.out, H5.out.ok.2⟩
                        eq := by
                          rw [HSE.out]
                          have h1 := HE5.out
                          cases q with
                          | true =>
                            have ha : ns'.map Eq4.s = ns.map Eq4.s ++ [x.s] := congrArg Prod.fst h1
                            have hb : p = true := congrArg Prod.snd h1
                            rw [List.map_append, ha, hb]; rfl
                          | false =>
                            have ha : ns'.map Eq4.s = ns.map Eq4.s := congrArg Prod.fst h1
                            have hb : p = put := congrArg Prod.snd h1
                            rw [List.map_append, ha, hb]; rfl
                        cnt := by rw [List.length_append, HN5.out]; show j + p.toNat + 1 = j + 1 + p.toNat; omega }⟩⟩
                      case measure => simp [intOf]; omega
              · obtain rfl : j = ts.length := by omega
                have HE2 : Aside0 ((ns.map Eq4.s, put) = (ts.map Eq4.s).foldl (red2 n x.s) ([], false)) := ⟨by have := HJ.out.eq; rwa [List.take_length] at this⟩
                have HB2 : Aside0 (w.heap.size + 1 < W2.heap.size) := ⟨(Array.getElem?_eq_some_iff.1 HB5r.out).1⟩
                have HB4r : Aside0 (W2.heap[w.heap.size]? = some (.cells #[.slice none 0 0, .slice none 0 0] 83 (0, 0))) := ⟨HI.out.kb.blk HB4.out (by have := HB1.out; omega) (by simp)⟩
                have H4 : Aside0 (In4 w W2 wr sz AL AE ts.length cL cE E u9 ns) := ⟨{
                  rN := HJ.out.rN
                  rE := Kd.R_mono (Kd.R_below (Kd.R_keep HE1.out HI.out.kb (fun k hk => hk)) HJ.out.below) (fun _ _ => trivial)
                  b5 := hb5
                  b4 := (HJ.out.below.block _ (Array.getElem?_eq_some_iff.1 HB4r.out).1).trans HB4r.out
                  below := below_step HI.out.below HJ.out.below
                  k3 := (HK3.out.trans HI.out.k3).trans (K3.below HJ.out.below)
                  ok := HJ.out.ok }⟩
                have HXD : Aside0 (RowOk w.heap.size wr x ∧ x.b.size = sz) := ⟨HI.out.ok.keep (K3.below HJ.out.below), HI.out.sz⟩
                have HCNT := Aside0.mk HJ.out.cnt
                have HWR := Aside0.mk HJ.out.below
                have HS : Aside0 (redS n (ts.map Eq4.s, E) x0.s = (redL n x.s (ts.map Eq4.s), E)) := ⟨by
                  unfold redS
                  dsimp only
                  rw [← HQL.out, if_neg (show ¬ x.s.f0.length = 0 from HXN.out)]⟩
                clear hb5 hbx HJ hj hlt2 HT2 HL2 HB4r
                go_upto_if 101 with (fail)
                go_cut [9] (fun v9 wx => ∃ ns' : List Eq4, Aside0 (In4 w W2 wx sz AL AE ts.length cL cE E v9 ns' ∧ ns'.map Eq4.s = redL n x.s (ts.map Eq4.s) ∧ ns'.length = ts.length + 1))
                case first =>
                  cases put with
                  | true =>
                    go_wp2_with fail
                    go_meet
                    case rel => exact ⟨ns, ⟨H4.out, by unfold redL; rw [← HE2.out]; rfl, HCNT.out⟩⟩
                  | false =>
                    go_wp2_with ((with_reducible refine gate_builtin (b := .append) (xs := #[.tmp 102, .tmp 104]) rfl ?_); at_builtin; refine Kd.R_append kEq (w0 := W2) W2.heap.size rfl (.tmp 102) (.tmp 104) 77 81 (.agg #[.slice none 0 0, .string ⟨#[]⟩]) 40 rfl Try.underlying77 info81' rfl (by decide) (by omega) u9 ns x [.slice x.A x.l.length x.c, .string x.b] (fun _ => True) (fun _ => False) rfl rfl rfl (fun _ hk => hk.elim) (fun _ _ => trivial) H4.out.rN HWR.out HWR.out.size (by have := HCNT.out; have : false.toNat = 0 := rfl; omega) ?_; intro v7 w7 hr7 hb7 hg7 hat7; have H7 := Aside0.mk (H4.out.grown HG2.out.1 HB2.out hr7 (below_step HI.out.below hb7) hg7 HXD.out); clear hr7 hb7 hg7 hat7)
                    go_meet
                    case rel => exact ⟨ns ++ [x], ⟨H7.out, by unfold redL; rw [← HE2.out, List.map_append]; rfl, by rw [List.length_append, HCNT.out]; rfl⟩⟩
                case rest =>
                  obtain ⟨ns', HC⟩ := hcut
                  obtain ⟨wd, rfl⟩ : ∃ wd : World, wd = wc := ⟨_, rfl⟩
                  have H5 := Aside0.mk HC.out.1
                  have HM5 := Aside0.mk HC.out.2.1
                  have HL5 := Aside0.mk HC.out.2.2
                  obtain ⟨A7, c7, e7⟩ := Kd.R_slice H5.out.rN
                  subst e7
                  obtain ⟨e0, e1, ef⟩ := cell2 H5.out.b5
                  clear HC c0 c1 b0 b1
                  go_wp2_with fail
                  have hk1 : K3 w.heap.size wd (wd.setCell ⟨w.heap.size + 1, 0, none⟩ (.slice A7 ns'.length c7)) := K3.set H5.out.b5 (by decide) (by omega) 0 _
                  refine ⟨⟨k + 1, .slice A7 ns'.length c7, .slice AE E.length cE, ns', E, by omega, by go_num, ⟨?_⟩⟩, by simp [intOf]; omega⟩
                  exact {
                    res := (Below.heap_setCell wd ⟨w.heap.size + 1, 0, none⟩ _ w.heap.size (by simp)).trans H5.out.b4
                    box := blk_put H5.out.b5 0 _ rfl
                    rL := Kd.R_mono (Kd.R_set (Kd.R_lower H5.out.rN HG2.out.1) H5.out.b5 (kEq_ne 83 (by decide)) 0 _) (fun _ _ => trivial)
                    rE := Kd.R_mono (Kd.R_set H5.out.rE H5.out.b5 (by decide) 0 _) (fun _ _ => trivial)
                    eq := by rw [HE0.out, HS.out, HM5.out]
                    ok := fun t ht => ⟨(H5.out.ok t ht).1.keep hk1, (H5.out.ok t ht).2⟩
                    cnt := by have := HCN.out; have := HL5.out; omega
                    below := below_set H5.out.below (by omega)
                    k3 := H5.out.k3.trans hk1 }
    · obtain rfl : k = ins.length := by omega
      obtain ⟨AL, cL, eL⟩ := Kd.R_slice HA.out.rL
      subst eL
      obtain ⟨AE, cE, eE⟩ := Kd.R_slice HA.out.rE
      subst eE
      obtain ⟨b0, b1, -⟩ := cell2 HA.out.box
      obtain ⟨r0, r1, rf⟩ := cell2 HA.out.res
      go_wp2_with fail
      have hk1 := K3.set (B := w.heap.size) HA.out.res (by decide : (83 : Nat) ≠ 3) (Nat.le_refl _) 0 (.slice AL ts.length cL)
      have h1 := blk_put HA.out.res 0 (.slice AL ts.length cL) rfl
      have h2 := blk_put h1 1 (.slice AE E.length cE) rfl
      have hk2 := hk1.trans (K3.set h1 (by decide) (Nat.le_refl _) 1 (.slice AE E.length cE))
      have hq := HA.out.eq
      rw [List.take_of_length_le (by rw [List.length_map]; exact Nat.le_refl _)] at hq
      have hq1 : (redR n (ins.map Eq4.s)).1 = ts.map Eq4.s := by unfold redR; rw [← hq]
      have hq2 : (redR n (ins.map Eq4.s)).2 = E := by unfold redR; rw [← hq]
      exact bodyPost_ret (v := .agg #[.slice AL ts.length cL, .slice AE E.length cE]) (results_cell_row rfl _ _ w.heap.size 83 #[.slice AL ts.length cL, .slice AE E.length cE] (0, 0) _ rfl h2 Try.underlying83 rfl (by kernel_rfl)) rfl
        ⟨_, _, ts, rfl, Kd.R_set (Kd.R_set HA.out.rL HA.out.res (kEq_ne 83 (by decide)) 0 _) h1 (kEq_ne 83 (by decide)) 1 _, by rw [hq2]; exact Kd.R_set (Kd.R_set HA.out.rE HA.out.res (by decide) 0 _) h1 (by decide) 1 _, hq1.symm, fun t ht => (HA.out.ok t ht).1.keep hk2, below_set (below_set HA.out.below (Nat.le_refl _)) (Nat.le_refl _)⟩
end Go.Proofs.Ytgcgnnblgimegaa.P
