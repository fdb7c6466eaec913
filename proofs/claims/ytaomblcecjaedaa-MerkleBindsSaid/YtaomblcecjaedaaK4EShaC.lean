/- What the claim on this statement wants of the text YtaomblcecjaedaaEShaC. Not trusted: Lean checks it. -/
import Derived.Test.YtaomblcecjaedaaK4EShaB
namespace Go.Proofs.Ytaomblcecjaedaa.P
open Go.RowKit Go.Proofs.YtaomblcecjaedaaW.PrintWords Go.Proofs.YtaomblcecjaedaaW.PrintLast Go.Proofs.YtaomblcecjaedaaW.PrintMore
set_option linter.unusedVariables false
set_option linter.unusedSimpArgs false
theorem rotr_quiet (x n : Int) (w : World) (m : Nat) : Calls Try.prog 61 #[.int .u32 x, .int .i64 n] (w.drewN m) fun e w'' => e = .returned (.int .u32 (R n x)) ∧ ∃ q, w'' = w.drewN q :=
  Calls.quiet_of ((sha_rotr.calls _ _ _ _ (R_f n x)).mono fun _ _ h => ⟨h.1, h.2.out⟩)
theorem size81 : (Try.prog.info? 81).map (·.size) = some 8 := by kernel_rfl
/-- A world in which one row was written whole. -/
structure RowSet (w W : World) (g : Nat) (cs : Array Value) (t : TypeId) : Prop where
  at_ : W.heap[g]? = some (.cells cs t (0, 0))
  other : ∀ k, k ≠ g → W.heap[k]? = w.heap[k]?
  size : W.heap.size = w.heap.size
  os : W.os = w.os
  tape : W.tape = w.tape
  output : W.output = w.output
theorem RowSet.below {B : Nat} {w0 w W : World} {g : Nat} {cs : Array Value} {t : TypeId} (h : RowSet w W g cs t) (hb : Below B w0 w) (hg : B ≤ g) : Below B w0 W :=
  ⟨h.os.trans hb.os, h.tape.trans hb.tape, h.output.trans hb.output, by rw [h.size]; exact hb.size, fun i hi => by rw [h.other i (by omega)]; exact hb.block i hi⟩
section
variable {P : Program}
theorem wpList_store_rowA {ops : Array Oper} {rest : List Oper} {o : Oper} {a : Act} {w : World} {Q : Exit → Act → World → Prop} (hgd : o.guard = none) (ty : TypeId) (x y : Operand) (ho : o.op = .store ty x y)
    (g : Nat) (cells : Array Value) (hx : a.eval x = .pointer (some ⟨g, 0, none⟩)) (hy : a.eval y = .agg cells)
    (t : TypeId) (old : Array Value) (hg : w.heap[g]? = some (.cells old t (0, 0))) (hi : (P.info? ty).map (·.size) = some cells.size)
    (hold : old.size = cells.size) (h1 : cells.all (·.oneCell') = true)
    (h : ∀ W, RowSet w W g cells t → wpList P ops Q rest (a.put o.dst undef) W) : wpList P ops Q (o :: rest) a w :=
  wpList_store_row hgd ty x y ho g cells hx hy t old hg hi hold h1 (h _ ⟨setRow_heap _ _ _ _ _ _ hg, fun k hk => setRow_other _ _ _ _ hk, by simp [World.setRow], rfl, rfl, rfl⟩)
end
theorem old_after {w2 W3 W4 : World} {X Y : Obj} {cs ds : Array Value} {t u : TypeId} (F3 : RowSet ((w2.alloc X).alloc Y) W3 w2.heap.size cs t) (F4 : RowSet W3 W4 (w2.heap.size + 1) ds u) (i : Nat) (h : i < w2.heap.size) :
    W4.heap[i]? = w2.heap[i]? := by
  rw [F4.other i (by omega), F3.other i (by omega), heap_alloc_old _ _ (by show i < (w2.heap.push X).size; simp; omega), heap_alloc_old _ _ h]
theorem size_after {w2 W3 W4 : World} {X Y : Obj} {cs ds : Array Value} {t u : TypeId} (F3 : RowSet ((w2.alloc X).alloc Y) W3 w2.heap.size cs t) (F4 : RowSet W3 W4 (w2.heap.size + 1) ds u) : W4.heap.size = w2.heap.size + 2 := by
  rw [F4.size, F3.size]
  show ((w2.heap.push X).push Y).size = _
  simp
def z8 : List Int := [0, 0, 0, 0, 0, 0, 0, 0]
structure MixW (w W : World) (g : Nat) (s st ws ks : List Int) : Prop where
  b0 : W.heap[w.heap.size]? = some (.cells (U s) 81 (0, 0))
  b1 : W.heap[w.heap.size + 1]? = some (.cells (U z8) 81 (0, 0))
  b5 : W.heap[g]? = some (.cells (U ws) 86 (0, 0))
  b6 : W.heap[g + 1]? = some (.cells (U ks) 86 (0, 0))
  b7 : W.heap[g + 2]? = some (.cells (U st) 81 (0, 0))
  hb : Below w.heap.size w W
  hg : w.heap.size + 2 ≤ g
theorem MixW.start {w w2 W3 W4 W5 : World} {s ws ks : List Int} {X Y Z : Obj} (b0 : w2.heap[w.heap.size]? = some (.cells (U s) 81 (0, 0))) (b1 : w2.heap[w.heap.size + 1]? = some (.cells (U z8) 81 (0, 0)))
    (hb : Below w.heap.size w w2) (hs : w.heap.size + 2 ≤ w2.heap.size) (F3 : RowSet ((w2.alloc X).alloc Y) W3 w2.heap.size (U ws) 86) (F4 : RowSet W3 W4 (w2.heap.size + 1) (U ks) 86) (F5 : RowSet (W4.alloc Z) W5 W4.heap.size (U s) 81) :
    MixW w W5 w2.heap.size s s ws ks := by
  have hz := size_after F3 F4
  have old : ∀ i, i < w2.heap.size + 2 → W5.heap[i]? = W4.heap[i]? := fun i hi => by rw [F5.other i (by omega), heap_alloc_old _ _ (by omega)]
  refine ⟨?_, ?_, ?_, ?_, ?_, ?_, hs⟩
  · rw [old _ (by omega), old_after F3 F4 _ (by omega)]; exact b0
  · rw [old _ (by omega), old_after F3 F4 _ (by omega)]; exact b1
  · rw [old _ (by omega), F4.other _ (by omega)]; exact F3.at_
  · rw [old _ (by omega)]; exact F4.at_
  · rw [← hz]; exact F5.at_
  · exact F5.below (below_alloc (F4.below (F3.below (below_alloc (below_alloc hb _) _) (by omega)) (by omega)) _) (by omega)
theorem MixW.drewN {w W : World} {g : Nat} {s st ws ks : List Int} (h : MixW w W g s st ws ks) (n : Nat) : MixW w (W.drewN n) g s st ws ks :=
  ⟨h.b0, h.b1, h.b5, h.b6, h.b7, pw_below_drewN h.hb n, h.hg⟩
theorem MixW.put {w W : World} {g : Nat} {s st ws ks : List Int} (h : MixW w W g s st ws ks) (st' : List Int) : MixW w (W.setRow (g + 2) (U st')) g s st' ws ks := by
  have hg := h.hg
  exact ⟨by rw [setRow_other _ _ _ _ (by omega)]; exact h.b0, by rw [setRow_other _ _ _ _ (by omega)]; exact h.b1, by rw [setRow_other _ _ _ _ (by omega)]; exact h.b5,
    by rw [setRow_other _ _ _ _ (by omega)]; exact h.b6, setRow_heap _ _ _ _ _ _ h.b7, below_setRow h.hb (by omega), h.hg⟩
theorem MixW.set {w W : World} {g : Nat} {s st ws ks : List Int} (h : MixW w W g s st ws ks) (i : Nat) (v : Int) : MixW w (W.setCell ⟨g + 2, i, none⟩ (.int .u32 v)) g s (st.set i v) ws ks := by
  have hg := h.hg
  exact ⟨by rw [heap_setCell_other _ _ _ _ (by simp; omega)]; exact h.b0, by rw [heap_setCell_other _ _ _ _ (by simp; omega)]; exact h.b1, by rw [heap_setCell_other _ _ _ _ (by simp)]; exact h.b5,
    by rw [heap_setCell_other _ _ _ _ (by simp)]; exact h.b6, by rw [← U_set]; exact heap_setCell_same _ _ _ _ _ _ h.b7, below_set h.hb (by omega), h.hg⟩
theorem two_new {w w1 : World} {X Y : Obj} (h : Below ((w.alloc X).alloc Y).heap.size ((w.alloc X).alloc Y) w1) :
    w1.heap[w.heap.size]? = some X ∧ w1.heap[w.heap.size + 1]? = some Y ∧ Below w.heap.size w w1 ∧ w.heap.size + 2 ≤ w1.heap.size := by
  have e : ((w.alloc X).alloc Y).heap.size = w.heap.size + 2 := by
    show ((w.heap.push X).push Y).size = _
    simp
  refine ⟨(h.block w.heap.size (by omega)).trans (heap_alloc2_old w X Y), (h.block (w.heap.size + 1) (by omega)).trans (heap_alloc2_new w X Y), ?_, by have := h.size; omega⟩
  exact below_step (below_alloc (below_alloc (Below.refl w.heap.size w) X) Y) h
theorem z8_lit : U z8 = #[Value.int IntKind.u32 0, Value.int IntKind.u32 0, Value.int IntKind.u32 0, Value.int IntKind.u32 0, Value.int IntKind.u32 0, Value.int IntKind.u32 0, Value.int IntKind.u32 0, Value.int IntKind.u32 0] := rfl
theorem MixW.row {w W W' : World} {g : Nat} {s st st' ws ks : List Int} (h : MixW w W g s st ws ks) (F : RowSet W W' (g + 2) (U st') 81) : MixW w W' g s st' ws ks := by
  have hg := h.hg
  exact ⟨by rw [F.other _ (by omega)]; exact h.b0, by rw [F.other _ (by omega)]; exact h.b1, by rw [F.other _ (by omega)]; exact h.b5,
    by rw [F.other _ (by omega)]; exact h.b6, F.at_, F.below h.hb (by omega), h.hg⟩
def chOf (e f i : Int) : Int := bits BinOp.xor IntKind.u32 (bits BinOp.and IntKind.u32 e f) (bits BinOp.and IntKind.u32 (bits BinOp.xor IntKind.u32 IntKind.u32.max e) i)
def majOf (a b c : Int) : Int := bits BinOp.xor IntKind.u32 (bits BinOp.xor IntKind.u32 (bits BinOp.and IntKind.u32 a b) (bits BinOp.and IntKind.u32 a c)) (bits BinOp.and IntKind.u32 b c)
def t1Of (e p ch x y : Int) : Int := ((p + bits BinOp.xor IntKind.u32 (bits BinOp.xor IntKind.u32 (R 6 e) (R 11 e)) (R 25 e) + ch + y) % 4294967296 + x) % 4294967296
def mixStep (ws ks st : List Int) (k : Nat) : List Int :=
  [(t1Of (rd st ((4 : Nat) : Int)) (rd st ((7 : Nat) : Int)) (chOf (rd st ((4 : Nat) : Int)) (rd st ((5 : Nat) : Int)) (rd st ((6 : Nat) : Int))) (rd ws (k : Int)) (rd ks (k : Int)) +
      (bits BinOp.xor IntKind.u32 (bits BinOp.xor IntKind.u32 (R 2 (rd st ((0 : Nat) : Int))) (R 13 (rd st ((0 : Nat) : Int)))) (R 22 (rd st ((0 : Nat) : Int))) + majOf (rd st ((0 : Nat) : Int)) (rd st ((1 : Nat) : Int)) (rd st ((2 : Nat) : Int)))) % 4294967296,
    rd st ((0 : Nat) : Int), rd st ((1 : Nat) : Int), rd st ((2 : Nat) : Int),
    (rd st ((3 : Nat) : Int) + t1Of (rd st ((4 : Nat) : Int)) (rd st ((7 : Nat) : Int)) (chOf (rd st ((4 : Nat) : Int)) (rd st ((5 : Nat) : Int)) (rd st ((6 : Nat) : Int))) (rd ws (k : Int)) (rd ks (k : Int))) % 4294967296,
    rd st ((4 : Nat) : Int), rd st ((5 : Nat) : Int), rd st ((6 : Nat) : Int)]
def mixN (ws ks s : List Int) : Nat → List Int
  | 0 => s
  | k + 1 => mixStep ws ks (mixN ws ks s k) k
def addN (s st : List Int) : Nat → List Int
  | 0 => st
  | j + 1 => (addN s st j).set j ((rd (addN s st j) (j : Int) + rd s (j : Int)) % 4294967296)
theorem addN_len (s st : List Int) (j : Nat) : (addN s st j).length = st.length := by
  induction j with
  | zero => rfl
  | succ j ih => simp [addN, ih]
set_option maxHeartbeats 1000000 in
set_option maxRecDepth 100000 in
theorem mix_core (s ws ks : List Int) (hs : s.length = 8) (hws : ws.length = 64) (hks : ks.length = 64) (A0 : Option Addr) (n0 c0 : Nat) (w : World)
    (HW : Aside0 (∀ W : World, Below w.heap.size w W → Calls Try.prog 59 #[.slice A0 n0 c0] W fun e w' => e = .returned (.agg (U ws)) ∧ Below W.heap.size W w'))
    (HK : Aside0 (∀ W : World, Calls Try.prog 60 #[] W fun e w' => e = .returned (.agg (U ks)) ∧ Below W.heap.size W w')) :
    Calls Try.prog 57 #[.agg (U s), .slice A0 n0 c0] w fun e w' => e = .returned (.agg (U (addN s (mixN ws ks s 64) 8))) ∧ Below w.heap.size w w' := by
  have HL := Aside0.mk hws
  have HL2 := Aside0.mk hks
  have HL3 := Aside0.mk hs
  clear hws hks hs
  go_enter Try.func57, Try.ntmps57
  go_wp2_with fail
  refine (HW.out _ (below_alloc (below_alloc (Below.refl _ _) _) _)).mono ?_
  rintro e w1 ⟨rfl, hb1⟩
  obtain ⟨b0, b1, hB1, HS1⟩ := two_new hb1
  rw [← z8_lit] at b1
  have B0 := Aside0.mk b0
  have B1 := Aside0.mk b1
  have HB1 := Aside0.mk hB1
  clear hb1 b0 b1 hB1
  go_wp2_with fail
  refine (HK.out _).mono ?_
  rintro e w2 ⟨rfl, hb2⟩
  have B0' := Aside0.mk ((hb2.block w.heap.size (by omega)).trans B0.out)
  have B1' := Aside0.mk ((hb2.block (w.heap.size + 1) (by omega)).trans B1.out)
  have HB2 := Aside0.mk (below_step HB1.out hb2)
  have HS2 : w.heap.size + 2 ≤ w2.heap.size := by have := hb2.size; omega
  clear hb2 HS1 B0 B1 HB1
  have S5 : Aside0 ((Try.prog.info? 86).map (·.size) = some (U ws).size) := ⟨by rw [U_size, HL.out]; exact size86⟩
  have S6 : Aside0 ((Try.prog.info? 86).map (·.size) = some (U ks).size) := ⟨by rw [U_size, HL2.out]; exact size86⟩
  have S7 : Aside0 ((Try.prog.info? 81).map (·.size) = some (U s).size) := ⟨by rw [U_size, HL3.out]; exact size81⟩
  have T5 : Aside0 (64 = (U ws).size) := ⟨((U_size ws).trans HL.out).symm⟩
  have T6 : Aside0 (64 = (U ks).size) := ⟨((U_size ks).trans HL2.out).symm⟩
  have T7 : Aside0 (8 = (U s).size) := ⟨((U_size s).trans HL3.out).symm⟩
  have G0 : w.heap.size < w2.heap.size := by omega
  go_wp2_with (first | (refine wpList_store_rowA rfl 86 (.tmp 5) (.tmp 17) rfl w2.heap.size (U ws) rfl rfl 86 _ (heap_alloc2_old _ _ _) S5.out T5.out (U_ones _) ?_; intro W3 F3) | (refine wpList_store_rowA rfl 86 (.tmp 6) (.tmp 18) rfl (w2.heap.size + 1) (U ks) rfl rfl 86 _ ((F3.other _ (Nat.succ_ne_self _)).trans (heap_alloc2_new _ _ _)) S6.out T6.out (U_ones _) ?_; intro W4 F4) | (refine wpList_load_row rfl 81 (.tmp 2) rfl w.heap.size rfl 81 (U s) (0, 0) _ ((old_after F3 F4 _ G0).trans B0'.out) Try.underlying81 rfl S7.out ?_) | (refine wpList_store_rowA rfl 81 (.tmp 7) (.tmp 19) rfl W4.heap.size (U s) rfl rfl 81 _ (heap_alloc_new _ _) S7.out T7.out (U_ones _) ?_; intro W5 F5))
  have M := Aside0.mk (MixW.start B0'.out B1'.out HB2.out HS2 F3 F4 F5)
  have hz := size_after F3 F4
  rw [hz]
  clear hz F3 F4 F5 B0' B1' HB2 G0
  obtain ⟨g, hg⟩ : ∃ g, g = w2.heap.size := ⟨_, rfl⟩
  rw [← hg] at M ⊢
  clear hg HS2
  have T8 : Aside0 ([0, 0, 0, 0, 0, 0, 0, 0].length = 8) := ⟨rfl⟩
  go_loopw [20] (fun v20 wr => ∃ (k : Nat) (st : List Int), k ≤ 64 ∧ v20 = .int .i64 k ∧ Aside0 (st.length = 8) ∧ Aside0 (MixW w wr g s st ws ks) ∧ Aside0 (st = mixN ws ks s k)) (fun v20 _ => 64 - (intOf v20).toNat)
  case atStart => exact ⟨0, s, by omega, rfl, HL3, M, ⟨rfl⟩⟩
  case round =>
    clear M
    obtain ⟨k, st, hk, rfl, HST, M, HN⟩ := hrel
    by_cases hlt : k < 64
    · have hst := HST.out
      have q0 := U_cell M.out.b7 0 (by omega)
      have q1 := U_cell M.out.b7 1 (by omega)
      have q2 := U_cell M.out.b7 2 (by omega)
      have q3 := U_cell M.out.b7 3 (by omega)
      have q4 := U_cell M.out.b7 4 (by omega)
      have q5 := U_cell M.out.b7 5 (by omega)
      have q6 := U_cell M.out.b7 6 (by omega)
      have q7 := U_cell M.out.b7 7 (by omega)
      have qw := U_cell M.out.b5 k (by rw [HL.out]; exact hlt)
      have qk := U_cell M.out.b6 k (by rw [HL2.out]; exact hlt)
      clear hst
      obtain ⟨a, ha⟩ : ∃ z, z = rd st ((0 : Nat) : Int) := ⟨_, rfl⟩
      obtain ⟨b, hb⟩ : ∃ z, z = rd st ((1 : Nat) : Int) := ⟨_, rfl⟩
      obtain ⟨c, hc⟩ : ∃ z, z = rd st ((2 : Nat) : Int) := ⟨_, rfl⟩
      obtain ⟨d, hd⟩ : ∃ z, z = rd st ((3 : Nat) : Int) := ⟨_, rfl⟩
      obtain ⟨e, he⟩ : ∃ z, z = rd st ((4 : Nat) : Int) := ⟨_, rfl⟩
      obtain ⟨f, hf⟩ : ∃ z, z = rd st ((5 : Nat) : Int) := ⟨_, rfl⟩
      obtain ⟨i, hi⟩ : ∃ z, z = rd st ((6 : Nat) : Int) := ⟨_, rfl⟩
      obtain ⟨p, hh⟩ : ∃ z, z = rd st ((7 : Nat) : Int) := ⟨_, rfl⟩
      obtain ⟨x, hx⟩ : ∃ z, z = rd ws ((k : Nat) : Int) := ⟨_, rfl⟩
      obtain ⟨y, hy⟩ : ∃ z, z = rd ks ((k : Nat) : Int) := ⟨_, rfl⟩
      rw [← ha] at q0
      rw [← hb] at q1
      rw [← hc] at q2
      rw [← hd] at q3
      rw [← he] at q4
      rw [← hf] at q5
      rw [← hi] at q6
      rw [← hh] at q7
      rw [← hx] at qw
      rw [← hy] at qk
      have HA := Aside0.mk ha
      have HB := Aside0.mk hb
      have HC := Aside0.mk hc
      have HD := Aside0.mk hd
      have HE := Aside0.mk he
      have HF := Aside0.mk hf
      have HI := Aside0.mk hi
      have HH := Aside0.mk hh
      have HX := Aside0.mk hx
      have HY := Aside0.mk hy
      clear ha hb hc hd he hf hi hh hx hy
      have u4 := Addr.add_zero' (⟨g + 2, 0, none⟩ : Addr)
      go_wp2_with fail
      go_quiet (fail)
      go_wp2_with fail
      obtain ⟨ch, hch⟩ : ∃ z, z = bits BinOp.xor IntKind.u32 (bits BinOp.and IntKind.u32 e f) (bits BinOp.and IntKind.u32 (bits BinOp.xor IntKind.u32 IntKind.u32.max e) i) := ⟨_, rfl⟩
      obtain ⟨maj, hmaj⟩ : ∃ z, z = bits BinOp.xor IntKind.u32 (bits BinOp.xor IntKind.u32 (bits BinOp.and IntKind.u32 a b) (bits BinOp.and IntKind.u32 a c)) (bits BinOp.and IntKind.u32 b c) := ⟨_, rfl⟩
      rw [← hch, ← hmaj]
      have HCH := Aside0.mk hch
      have HMAJ := Aside0.mk hmaj
      clear hch hmaj
      have M2 := Aside0.mk (M.out.drewN nq)
      clear q0 q1 q2 q3 q4 q5 q6 q7 qw qk M
      generalize wr.drewN nq = wq at M2 ⊢
      have hst := HST.out
      have q7 := U_cell M2.out.b7 7 (by omega)
      have qw := U_cell M2.out.b5 k (by rw [HL.out]; exact hlt)
      have qk := U_cell M2.out.b6 k (by rw [HL2.out]; exact hlt)
      clear hst
      rw [← HH.out] at q7
      rw [← HX.out] at qw
      rw [← HY.out] at qk
      go_quiet ((go_at_call 61; exact rotr_quiet _ _ _ _))
      go_wp2_with fail
      obtain ⟨t1, ht1⟩ : ∃ z, z = ((p + bits BinOp.xor IntKind.u32 (bits BinOp.xor IntKind.u32 (R 6 e) (R 11 e)) (R 25 e) + ch + y) % 4294967296 + x) % 4294967296 := ⟨_, rfl⟩
      rw [← ht1]
      have HT1 := Aside0.mk ht1
      have M3 := Aside0.mk (M2.out.drewN nq)
      clear ht1 q7 qw qk M2
      generalize wq.drewN nq = wp at M3 ⊢
      refine (sha_rotr.calls _ _ _ _ (R_f 2 a)).mono ?_
      rintro e' w' ⟨rfl, ⟨n1, rfl⟩⟩
      go_wp2_with fail
      refine (sha_rotr.calls _ _ _ _ (R_f 13 a)).mono ?_
      rintro e' w' ⟨rfl, ⟨n2, rfl⟩⟩
      go_wp2_with fail
      refine (sha_rotr.calls _ _ _ _ (R_f 22 a)).mono ?_
      rintro e' w' ⟨rfl, ⟨n3, rfl⟩⟩
      have hst := HST.out
      have q1 := U_cell M3.out.b7 1 (by omega)
      have q2 := U_cell M3.out.b7 2 (by omega)
      have q3 := U_cell M3.out.b7 3 (by omega)
      have q5 := U_cell M3.out.b7 5 (by omega)
      have q6 := U_cell M3.out.b7 6 (by omega)
      clear hst
      rw [← HB.out] at q1
      rw [← HC.out] at q2
      rw [← HD.out] at q3
      rw [← HF.out] at q5
      rw [← HI.out] at q6
      have M4 := Aside0.mk (M3.out.drewN (n1 + n2 + n3))
      go_wp2_with (refine wpList_store_rowA rfl 81 (.tmp 7) (.tmp 100) rfl (g + 2) (U [(t1 + (bits BinOp.xor IntKind.u32 (bits BinOp.xor IntKind.u32 (R 2 a) (R 13 a)) (R 22 a) + maj)) % 4294967296, a, b, c, (d + t1) % 4294967296, e, f, i]) rfl rfl 81 _ M4.out.b7 size81 (by rw [U_size, HST.out]; rfl) (U_ones _) ?_; intro W6 F6)
      refine ⟨⟨k + 1, mixStep ws ks st k, by omega, by go_num, ⟨rfl⟩, ?_, ⟨by rw [HN.out]; rfl⟩⟩, by simp [intOf]; omega⟩
      rw [HT1.out, HCH.out, HMAJ.out, HA.out, HB.out, HC.out, HD.out, HE.out, HF.out, HI.out, HH.out, HX.out, HY.out] at F6
      exact ⟨M4.out.row F6⟩
    · have hk64 : k = 64 := by omega
      subst hk64
      have HN2 := HN.out
      obtain ⟨st0, hst0⟩ : ∃ z, z = mixN ws ks s 64 := ⟨_, rfl⟩
      rw [← hst0] at HN2
      have HST0 := Aside0.mk hst0
      subst HN2
      clear hst0 HN
      rw [show (((64 : Nat)) : Int) = (64 : Int) from rfl]
      go_wp2_with fail
      obtain ⟨wo, rfl⟩ : ∃ wo : World, wo = wr := ⟨_, rfl⟩
      go_loopw [102] (fun v102 wr => ∃ j : Nat, j ≤ 8 ∧ v102 = .int .i64 j ∧ Aside0 (MixW w wr g s (addN s st j) ws ks)) (fun v102 _ => 8 - (intOf v102).toNat)
      case atStart => exact ⟨0, by omega, rfl, M⟩
      case round =>
        clear M
        obtain ⟨j, hj, rfl, M⟩ := hrel
        by_cases hlt2 : j < 8
        · have q1 := U_cell M.out.b7 j (by rw [addN_len, HST.out]; exact hlt2)
          have q2 := U_cell M.out.b0 j (by rw [HL3.out]; exact hlt2)
          have q3 := frozen_of_row wr (g + 2) j _ _ M.out.b7
          obtain ⟨x, hx⟩ : ∃ z, z = rd (addN s st j) ((j : Nat) : Int) := ⟨_, rfl⟩
          obtain ⟨y, hy⟩ : ∃ z, z = rd s ((j : Nat) : Int) := ⟨_, rfl⟩
          rw [← hx] at q1
          rw [← hy] at q2
          have HX := Aside0.mk hx
          have HY := Aside0.mk hy
          clear hx hy
          have z1 : (j : Int) < 8 := by omega
          go_wp2_with fail
          refine still_tail 8 (by kernel_rfl) (by kernel_rfl) ?_
          simp only [List.take_succ_cons, List.take_zero, List.drop_succ_cons, List.drop_zero]
          repeat still_step
          refine wpStill_nil ?_
          go_wp2_with fail
          go_roundw
          case rel =>
            refine ⟨j + 1, by omega, by go_num, ⟨?_⟩⟩
            rw [HX.out, HY.out]
            exact (M.out.drewN 1).set j _
          case measure => simp [intOf]; omega
        · have hj8 : j = 8 := by omega
          subst hj8
          clear hlt2 hlt
          obtain ⟨fin, hfin⟩ : ∃ z, z = addN s st 8 := ⟨_, rfl⟩
          rw [← hfin] at M
          have HFL : Aside0 ((Try.prog.info? 81).map (·.size) = some (U fin).size) := ⟨by rw [U_size, hfin, addN_len, HST.out]; exact size81⟩
          have HFS : Aside0 (8 = (U fin).size) := ⟨by rw [U_size, hfin, addN_len, HST.out]⟩
          have HFIN : Aside0 (fin = addN s (mixN ws ks s 64) 8) := ⟨by rw [← HST0.out]; exact hfin⟩
          clear hfin
          go_wp2_with (first | (refine wpList_load_row rfl 81 (.tmp 7) rfl (g + 2) rfl 81 _ (0, 0) _ M.out.b7 Try.underlying81 rfl HFL.out ?_) | (refine wpList_store_rowA rfl 81 (.tmp 4) (.tmp 114) rfl (w.heap.size + 1) _ rfl rfl 81 _ M.out.b1 HFL.out HFS.out (U_ones _) ?_; intro W7 F7))
          rw [← HFIN.out]
          exact bodyPost_ret (v := .agg (U fin)) (results_cell_row rfl _ _ (w.heap.size + 1) 81 _ (0, 0) _ rfl F7.at_ Try.underlying81 rfl HFL.out) rfl ⟨rfl, F7.below M.out.hb (by omega)⟩
end Go.Proofs.Ytaomblcecjaedaa.P
