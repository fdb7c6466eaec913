/- What the claim on this statement wants of the text YtaomblcecjaedaaEShaF. Not trusted: Lean checks it. -/
import Derived.Test.YtaomblcecjaedaaK4EShaE
import Derived.Deep.RegionHeld3
namespace Go.Proofs.Ytaomblcecjaedaa.P
open Go.RowKit Go.Proofs.YtaomblcecjaedaaW.PrintWords Go.Proofs.YtaomblcecjaedaaW.PrintLast Go.Proofs.YtaomblcecjaedaaW.PrintMore
attribute [local go_sem] max2_int min2_int max_two min_two max_three min_three max_four min_four
set_option linter.unusedVariables false
set_option linter.unusedSimpArgs false
/-- A row of one's own appended to a row of one's own. -/
theorem own_append {W : World} {B : Nat} {v0 v : Value} {xs ys : List Int} (h0 : W.ownsRow B 5 1 v0 xs.length (nums .u8 xs)) (h : W.ownsRow B 5 1 v ys.length (nums .u8 ys)) (hl : xs.length + ys.length ≤ 140737488355328) (hB : B ≤ W.heap.size) :
    ∃ v' w', (Builtin.append_ #[64, 64] 64 #[v0, v]).run Try.prog W = .ok v' w' ∧ w'.ownsRow B 5 1 v' (xs ++ ys).length (nums .u8 (xs ++ ys)) ∧ W.grownBy w' v0.ownBlock := by
  obtain ⟨i0, hi0, hz0, hz1, hz2⟩ := info_parts info5
  rcases h.2 with ⟨rfl, hn⟩ | ⟨g, cap, cur, rfl, hb, hg, hnc, hcm, hcs, ht⟩
  · obtain rfl : ys = [] := List.eq_nil_of_length_eq_zero hn
    refine ⟨v0, W, ?_, by rw [List.append_nil]; exact h0, World.grownBy.refl W _⟩
    rcases h0.2 with ⟨rfl, hn⟩ | ⟨g, cap, cur, rfl, _, _, hnc, _⟩
    · simp [Builtin.append_, run_underlying Try.underlying64, sizeOf, typeInfo, hi0, Builtin.lenOf, Builtin.firstCells]
    · simp [Builtin.append_, run_underlying Try.underlying64, sizeOf, typeInfo, hi0, Builtin.lenOf, Builtin.firstCells, hnc, storeCells]
  · have hc := h.cells (g := g) rfl
    obtain ⟨v', w', hr, h2, h3, _⟩ := run_append_own (P := Try.prog) W B 64 64 5 i0 _ 1 1 Try.underlying64 hi0 hz0 hz1 hz2 rfl (by decide) v0 xs.length _ h0 ⟨g, 0, none⟩ ys.length cap (nums .u8 ys) (by simp [nums]) hc (by intro u hu; simp [nums] at hu; obtain ⟨x, _, rfl⟩ := hu; rfl) (by simp only [maxLen]; omega) (by omega) hB
    refine ⟨v', w', hr, ?_, h3⟩
    rw [List.length_append, nums_append]
    exact h2
theorem step_append_own {P : Program} {ops : Array Oper} {o : Oper} {a : Act} {w : World} {K : Act → World → Prop} {Q : Exit → Act → World → Prop} {E : Prop}
    (hgd : o.guard = none) (s x : Operand) (t u : TypeId) (hop : o.op = .call { callee := .builtin .append, args := #[s, x], argTypes := #[t, u] })
    (sv y : Value) (hs : a.eval s = sv) (hx : a.eval x = y) (v : Value) (w' : World) (hrun : Aside0 ((Builtin.append_ #[t, u] o.type #[sv, y]).run P w = .ok v w'))
    (hK : K (a.put o.dst v) w') :
    if Region.wanted o (yielded ops a.tmps) = true then Oper.wp P o a w K Q else E := by
  have hw : Region.wanted o (yielded ops a.tmps) = true := by simp [Region.wanted, hgd]
  rw [if_pos hw]
  unfold Oper.wp execOp
  simp only [hop, resolve, invoke, builtin, Sem.run_bind, Sem.run_pure, Result.andThen_ok, List.map_toArray, List.map_cons, List.map_nil, hs, hx, hrun.out]
  exact hK
theorem HW.rowed {w W W3 : World} {g : Nat} {st : List Int} {n : Int} {v : Value} {xs : List Int} {X : Obj} {cs : Array Value} {t : TypeId} (h : HW w W g st n v xs) (F : RowSet (W.alloc X) W3 W.heap.size cs t) : HW w W3 g st n v xs :=
  h.later (F.below (below_alloc (Below.refl _ _) _) (Nat.le_refl _))
theorem own_empty (W : World) (B : Nat) (hB : B ≤ W.heap.size) : (W.alloc (.cells #[] 5)).ownsRow B 5 1 (.slice (some ⟨W.heap.size, 0, none⟩) 0 0) ([] : List Int).length (nums .u8 []) :=
  ⟨rfl, .inr ⟨W.heap.size, 0, #[], rfl, hB, heap_alloc_new W _, Nat.le_refl _, Nat.zero_le _, rfl, rfl⟩⟩
/-- A later world, seen from what was there. -/
theorem cell_later {W W1 : World} {v : Value} {a : Addr} (h : W.cell? a = some v) (hb : W1.heap[a.block]? = W.heap[a.block]?) : W1.cell? a = some v := (World.cell?_of_block hb).trans h
theorem own_later {W W1 : World} {B n : Nat} {v : Value} {xs : List Value} (h : W.ownsRow B 5 1 v n xs) (hb : Below W.heap.size W W1) : W1.ownsRow B 5 1 v n xs :=
  h.kept (grown_of_below hb none) (by cases h' : v.ownBlock <;> simp)
theorem own_append_str {W : World} {B : Nat} {v : Value} {xs : List Int} (s : ByteArray) (h : W.ownsRow B 5 1 v xs.length (nums .u8 xs)) (hl : xs.length + s.size ≤ 140737488355328) (hB : B ≤ W.heap.size) :
    ∃ v' w', (Builtin.append_ #[64, 9] 64 #[v, .string s]).run Try.prog W = .ok v' w' ∧ w'.ownsRow B 5 1 v' (xs ++ bytesOf s).length (nums .u8 (xs ++ bytesOf s)) ∧ W.grownBy w' v.ownBlock := by
  obtain ⟨i0, hi0, hz0, hz1, hz2⟩ := info_parts info5
  obtain ⟨v1, w1, hrun, own1, hg1, _⟩ := Lib.run_append_own_string (P := Try.prog) (w := W) B 64 9 64 5 i0 Try.underlying64 Try.underlying9 hi0 hz0 hz1 hz2 _ _ _ h s (by unfold maxLen; omega) (by omega) hB
  exact ⟨v1, w1, hrun, own_bytes own1, hg1⟩
/-- What is known of the world in which the rest is made: the state's copy, and a value that owns the bytes. -/
structure RW (w W : World) (g g3 : Nat) (st : List Int) (v : Value) (xs : List Int) : Prop where
  b3 : W.heap[g3]? = some (.cells (U st) 81 (0, 0))
  own : W.ownsRow w.heap.size 5 1 v xs.length (nums .u8 xs)
  hb : Below w.heap.size w W
  ge : w.heap.size ≤ g3
theorem RW.later {w W W1 : World} {g g3 : Nat} {st : List Int} {v : Value} {xs : List Int} (h : RW w W g g3 st v xs) (hb : Below W.heap.size W W1) : RW w W1 g g3 st v xs := by
  refine ⟨?_, own_later h.own hb, below_step h.hb hb, h.ge⟩
  rw [hb.block g3 (Array.getElem?_eq_some_iff.1 h.b3).1]; exact h.b3
theorem RW.run {w W : World} {g g3 : Nat} {st : List Int} {v : Value} {xs : List Int} (s : ByteArray) (h : RW w W g g3 st v xs) (hl : xs.length + s.size ≤ 140737488355328) (hg : g ≠ g3) (hgv : v.ownBlock ≠ some g) (hgs : g < W.heap.size) :
    ∃ v' w', (Builtin.append_ #[64, 9] 64 #[v, .string s]).run Try.prog W = .ok v' w' ∧ RW w w' g g3 st v' (xs ++ bytesOf s) ∧ w'.heap[g]? = W.heap[g]? := by
  obtain ⟨v', w', hr, ho, hg1⟩ := own_append_str s h.own hl h.hb.size
  refine ⟨v', w', hr, ⟨?_, ho, Below.grown h.hb hg1 h.hb.size (fun k hk => own_base h.own k hk), h.ge⟩, hg1.block g hgs (fun e => hgv e.symm)⟩
  rw [hg1.block g3 (Array.getElem?_eq_some_iff.1 h.b3).1 (fun e => own_far5 h.own h.b3 (by decide) e.symm)]
  exact h.b3
theorem addr_add_block (a : Addr) (n : Nat) : (a.add n).block = a.block := by unfold Addr.add; split <;> rfl
/-- The blocks of a text mixed into a state. -/
def absN : Nat → List Int → List Int → List Int
  | 0, st, _ => st
  | k + 1, st, l => absN k (mixL st (l.take 64)) (l.drop 64)
structure LW (w W : World) (g3 : Nat) (st : List Int) (A : Option Addr) (c : Nat) (l : List Int) : Prop where
  b3 : W.heap[g3]? = some (.cells (U st) 81 (0, 0))
  st8 : st.length = 8
  hC : Kd.C (Kd.int .u8) W A l.length l
  hc : l.length ≤ c
  far : ∀ ad, A = some ad → ad.block ≠ g3
  hb : Below w.heap.size w W
  ge : w.heap.size ≤ g3
theorem RW.start {w W : World} {g g3 : Nat} {st : List Int} {A : Option Addr} {m c : Nat} {l : List Int} (h : RW w W g g3 st (.slice A m c) l) (h8 : st.length = 8) : m = l.length ∧ LW w W g3 st A c l := by
  have h2 := Kd.R_reads' (Kd.R_of_own (enc := Value.int .u8) (h1 := fun _ => rfl) (ok := fun _ => True) (xs := l) h.own (fun _ _ => trivial))
  refine ⟨h2.1, h.b3, h8, h2.2.2, by rw [← h2.1]; exact h2.2.1, ?_, h.hb, h.ge⟩
  rintro ad rfl e
  exact own_far5 h.own h.b3 (by decide) (by simp [Value.ownBlock, e])
theorem LW.later {w W W1 : World} {g3 c : Nat} {st : List Int} {A : Option Addr} {l : List Int} (h : LW w W g3 st A c l) (hb : Below W.heap.size W W1) : LW w W1 g3 st A c l := by
  refine ⟨?_, h.st8, Kd.C_below h.hC hb, h.hc, h.far, below_step h.hb hb, h.ge⟩
  rw [hb.block g3 (Array.getElem?_eq_some_iff.1 h.b3).1]; exact h.b3
theorem LW.drewN {w W : World} {g3 c : Nat} {st : List Int} {A : Option Addr} {l : List Int} (h : LW w W g3 st A c l) (m : Nat) : LW w (W.drewN m) g3 st A c l := h.later (pw_below_drewN (Below.refl _ _) m)
theorem LW.cut {w W : World} {g3 c : Nat} {st : List Int} {A : Option Addr} {l : List Int} (h : LW w W g3 st A c l) (hl : 64 ≤ l.length) : LW w W g3 st (if c = 64 then A else A.map (·.add 64)) (c - 64) (l.drop 64) := by
  refine ⟨h.b3, h.st8, Kd.C_drop h.hC hl h.hc, by have := h.hc; rw [List.length_drop]; omega, ?_, h.hb, h.ge⟩
  intro ad hd
  by_cases hc : c = 64
  · rw [if_pos hc] at hd; exact h.far ad hd
  · rw [if_neg hc] at hd
    obtain ⟨a0, h0, rfl⟩ := Option.map_eq_some_iff.1 hd
    have := h.far a0 h0
    rw [addr_add_block]; exact this
theorem LW.cells8 {w W : World} {g3 c : Nat} {a0 a1 a2 a3 a4 a5 a6 a7 : Int} {A : Option Addr} {l : List Int} (h : LW w W g3 [a0, a1, a2, a3, a4, a5, a6, a7] A c l) :
    W.cell? ⟨g3, 0, none⟩ = some (.int .u32 a0) ∧ W.cell? ⟨g3, 1, none⟩ = some (.int .u32 a1) ∧ W.cell? ⟨g3, 2, none⟩ = some (.int .u32 a2) ∧ W.cell? ⟨g3, 3, none⟩ = some (.int .u32 a3) ∧ W.cell? ⟨g3, 4, none⟩ = some (.int .u32 a4) ∧ W.cell? ⟨g3, 5, none⟩ = some (.int .u32 a5) ∧ W.cell? ⟨g3, 6, none⟩ = some (.int .u32 a6) ∧ W.cell? ⟨g3, 7, none⟩ = some (.int .u32 a7) :=
  ⟨U_cell h.b3 0 (by simp), U_cell h.b3 1 (by simp), U_cell h.b3 2 (by simp), U_cell h.b3 3 (by simp), U_cell h.b3 4 (by simp), U_cell h.b3 5 (by simp), U_cell h.b3 6 (by simp), U_cell h.b3 7 (by simp)⟩
theorem LW.froz {w W : World} {g3 c : Nat} {st : List Int} {A : Option Addr} {l : List Int} (h : LW w W g3 st A c l) (j : Nat) : W.frozen? ⟨g3, j, none⟩ = false := frozen_of_row W g3 _ _ _ h.b3
theorem setCells_keep {w : World} (g : Nat) (vs : List Value) : ∀ (o : Nat) (W : World), KeepBut w W g none → KeepBut w (W.setCells g o vs) g none := by
  induction vs with
  | nil => intro o W h; exact h
  | cons v r ih => intro o W h; exact ih (o + 1) _ (h.set_ o v)
theorem setFrom_row (st st' : List Int) (h : st.length = 8) (h' : st'.length = 8) : setFrom (U st) 0 (U st').toList = U st' := by
  obtain ⟨a, b, c, d, e, f, g, i, rfl⟩ := list8 st h
  obtain ⟨a', b', c', d', e', f', g', i', rfl⟩ := list8 st' h'
  simp [U, setFrom]
theorem LW.setS {w W : World} {g3 c : Nat} {st st' : List Int} {A : Option Addr} {l : List Int} (h : LW w W g3 st A c l) (h8 : st'.length = 8) : LW w (W.setCells g3 0 (U st').toList) g3 st' A c l := by
  refine ⟨?_, h8, Kd.C_keep 0 h.hC (setCells_keep g3 _ _ _ (KeepBut.refl W g3 none)) (fun ad he _ => h.far ad he), h.hc, h.far, setCells_below g3 h.ge _ _ _ h.hb, h.ge⟩
  rw [setCells_heap g3 81 _ _ _ _ h.b3, setFrom_row _ _ h.st8 h8]
theorem LW.set8 {w W : World} {g3 c : Nat} {st : List Int} {A : Option Addr} {l : List Int} (h : LW w W g3 st A c l) (b0 b1 b2 b3 b4 b5 b6 b7 : Int) :
    LW w ((((((((W.setCell ⟨g3, 0, none⟩ (.int .u32 b0)).setCell ⟨g3, 1, none⟩ (.int .u32 b1)).setCell ⟨g3, 2, none⟩ (.int .u32 b2)).setCell ⟨g3, 3, none⟩ (.int .u32 b3)).setCell ⟨g3, 4, none⟩ (.int .u32 b4)).setCell ⟨g3, 5, none⟩ (.int .u32 b5)).setCell ⟨g3, 6, none⟩ (.int .u32 b6)).setCell ⟨g3, 7, none⟩ (.int .u32 b7)) g3 [b0, b1, b2, b3, b4, b5, b6, b7] A c l := h.setS (st' := [b0, b1, b2, b3, b4, b5, b6, b7]) rfl
theorem mixC {w W : World} {g3 c : Nat} {a0 a1 a2 a3 a4 a5 a6 a7 b0 b1 b2 b3 b4 b5 b6 b7 : Int} {A : Option Addr} {l : List Int} (h : LW w W g3 [a0, a1, a2, a3, a4, a5, a6, a7] A c l) (hl : 64 ≤ l.length) (hf : [b0, b1, b2, b3, b4, b5, b6, b7] = mixL [a0, a1, a2, a3, a4, a5, a6, a7] (l.take 64)) :
    Calls Try.prog 57 #[.agg #[Value.int IntKind.u32 a0, Value.int IntKind.u32 a1, Value.int IntKind.u32 a2, Value.int IntKind.u32 a3, Value.int IntKind.u32 a4, Value.int IntKind.u32 a5, Value.int IntKind.u32 a6, Value.int IntKind.u32 a7], .slice A 64 c] W fun e w' => e = .returned (.agg #[Value.int IntKind.u32 b0, Value.int IntKind.u32 b1, Value.int IntKind.u32 b2, Value.int IntKind.u32 b3, Value.int IntKind.u32 b4, Value.int IntKind.u32 b5, Value.int IntKind.u32 b6, Value.int IntKind.u32 b7]) ∧ Below W.heap.size W w' := by
  have hlen : (l.take 64).length = 64 := by rw [List.length_take]; omega
  have := mix_calls [a0, a1, a2, a3, a4, a5, a6, a7] rfl A c (l.take 64) W (Kd.C_take h.hC hl) (by rw [hlen]; have := h.hc; omega) (by omega)
  rw [← hf, hlen] at this
  exact this
def lenV : Value → Nat
  | .slice _ n _ => n
  | _ => 0
def w4 (x : Int) : List Int := [x / 16777216 % 256, x / 65536 % 256, x / 256 % 256, x % 256]
def outN (fin : List Int) : Nat → List Int
  | 0 => []
  | k + 1 => outN fin k ++ w4 (rd fin (k : Int))
theorem outN_len (fin : List Int) (k : Nat) : (outN fin k).length = 4 * k := by
  induction k with
  | zero => rfl
  | succ k ih => rw [outN, List.length_append, ih]; simp [w4]; omega
theorem new4 (W : World) (a b c d : Value) : ∀ j u, [a, b, c, d][j]? = some u → (W.alloc (.cells #[a, b, c, d] 5)).cell? ((⟨W.heap.size, 0, none⟩ : Addr).add j) = some u := by
  intro j u hj
  rw [Addr.add_mid, cell_of_row _ _ _ _ 5 _ (heap_alloc_new W _)]
  simpa using hj
theorem own4 {W : World} {B : Nat} {v : Value} {fin : List Int} {k : Nat} (h : W.ownsRow B 5 1 v ((outN fin k).length + 4) (nums .u8 (outN fin k) ++ nums .u8 (w4 (rd fin (k : Int))))) : W.ownsRow B 5 1 v (outN fin (k + 1)).length (nums .u8 (outN fin (k + 1))) := by
  rw [outN, List.length_append, nums_append]
  exact h
theorem wpList_index_U {ops : Array Oper} {rest : List Oper} {o : Oper} {a : Act} {w : World} {Q : Exit → Act → World → Prop} (hgd : o.guard = none) (x y : Operand) (ho : o.op = .index 81 x y) (st : List Int) (k : Nat) (h8 : st.length = 8) (hk : k < 8) (hx : a.eval x = .agg (U st)) (hy : a.eval y = .int .i64 k)
    (h : wpList Try.prog ops Q rest (a.put o.dst (.int .u32 (rd st (k : Int)))) w) : wpList Try.prog ops Q (o :: rest) a w :=
  wpList_plain hgd fun _ hK => by
    have h1 := run_part_plain (P := Try.prog) (w := w) (e := 65) (by kernel_rfl) (U_get st k (by omega))
    have h65 : (Try.prog.info? 65).map (·.size) = some 1 := by kernel_rfl
    obtain ⟨i0, hi0, hz0⟩ := Option.map_eq_some_iff.1 h65
    unfold Oper.wp execOp
    have hk8 : (k : Int) < 8 := by omega
    simp [ho, hx, hy, Instr.index, asIntOf, run_underlying Try.underlying81, sizeOf, typeInfo, hi0, hz0, hk8, hk, h1]
    exact hK _ _ h
theorem wpList_conv_own {ops : Array Oper} {rest : List Oper} {o : Oper} {a : Act} {w : World} {Q : Exit → Act → World → Prop} (hgd : o.guard = none) (x : Operand) (ho : o.op = .convert 64 9 x) (v : Value) (hx : a.eval x = v) {B n : Nat} {xs : List Int} (hv : w.ownsRow B 5 1 v n (nums .u8 xs))
    (h : wpList Try.prog ops Q rest (a.put o.dst (.string (strOfNums xs))) w) : wpList Try.prog ops Q (o :: rest) a w :=
  wpList_plain hgd fun _ hK => by
    have h1 := own_string (P := Try.prog) (src := 64) (dst := 9) Try.underlying64 Try.underlying5 Try.underlying9 hv
    unfold Oper.wp execOp
    simp only [ho, hx, Sem.run_bind, Sem.run_pure, h1, Result.andThen_ok]
    exact hK _ _ h
set_option maxHeartbeats 1000000 in
set_option maxRecDepth 100000 in
theorem hashsum_calls (w W : World) (g : Nat) (st xs : List Int) (n : Int) (v : Value) (h : HW w W g st n v xs) (hxl : xs.length < 64) (kp : Nat) (pad : ByteArray) (hp : sha_Pad.f kp n = some pad) (hps : pad.size ≤ 1000) (m : Nat) (hm : (xs ++ bytesOf pad).length = 64 * m) :
    Calls Try.prog 50 #[.pointer (some ⟨g, 0, none⟩)] W fun e W' => e = .returned (.string (strOfNums (outN (absN m st (xs ++ bytesOf pad)) 8))) ∧ Below w.heap.size w W' := by
  have H := Aside0.mk h
  have HXL := Aside0.mk hxl
  have HP := Aside0.mk hp
  have HPS := Aside0.mk hps
  have HM := Aside0.mk hm
  have H8 := Aside0.mk h.st8
  have HSZ : Aside0 ((Try.prog.info? 81).map (·.size) = some (st.map (Value.int .u32)).length) := ⟨by rw [List.length_map, h.st8]; exact size81⟩
  have HSU : Aside0 (8 = (U st).size) := ⟨by rw [U_size, h.st8]⟩
  have HSV : Aside0 ((Try.prog.info? 81).map (·.size) = some (U st).size) := ⟨by rw [U_size, h.st8]; exact size81⟩
  clear h hxl hp hps hm
  go_enter Try.func50, Try.ntmps50
  go_wp2_with (first | (refine wpList_load_mid rfl 81 _ rfl g 0 rfl _ _ H.out.range Try.underlying81 rfl HSZ.out ?_) | (refine wpList_store_rowA rfl 81 (.tmp 3) (.tmp 13) rfl W.heap.size (U st) rfl rfl 81 _ (heap_alloc_new _ _) HSV.out HSU.out (U_ones _) ?_; intro W3 F3))
  have H3 := Aside0.mk (H.out.rowed F3)
  have G3 := Aside0.mk F3.at_
  have hs3 : W3.heap.size = W.heap.size + 1 := by rw [F3.size]; show (W.heap.push _).size = _; simp
  have HS3 : Aside0 (w.heap.size ≤ W.heap.size) := ⟨H.out.hb.size⟩
  have HG3 : Aside0 (g < W.heap.size) := ⟨(Array.getElem?_eq_some_iff.1 H.out.hg).1⟩
  clear F3 H
  obtain ⟨g3, hg3⟩ : ∃ g3, g3 = W.heap.size := ⟨_, rfl⟩
  rw [← hg3] at G3 hs3 HS3 HG3 ⊢
  clear hg3
  have HZ3 := Aside0.mk hs3
  clear hs3
  have c8 := H3.out.cell8
  have c9 := H3.out.cell9
  have hempty : (W3.alloc (.cells #[] 5)).drew.ownsRow w.heap.size 5 1 (.slice (some ⟨W3.heap.size, 0, none⟩) 0 0) ([] : List Int).length (nums .u8 []) := own_empty W3 w.heap.size (by have := HS3.out; have := HZ3.out; omega)
  have hvown : (W3.alloc (.cells #[] 5)).drew.ownsRow w.heap.size 5 1 v xs.length (nums .u8 xs) := own_alloc H3.out.own (.cells #[] 5)
  have hsz5 : (W3.alloc (.cells #[] 5)).drew.heap.size = W3.heap.size + 1 := by show (W3.heap.push _).size = _; simp
  obtain ⟨v5, w5, hr5, ho5, hg5⟩ := own_append (xs := []) hempty hvown (by have := HXL.out; show 0 + xs.length ≤ _; omega) (by have := HS3.out; have := HZ3.out; omega)
  have HR5 := Aside0.mk hr5
  have HO5 := Aside0.mk ho5
  have HG5 := Aside0.mk hg5
  have HE5 : Aside0 (∀ i, i < W3.heap.size → w5.heap[i]? = W3.heap[i]?) := ⟨fun i hi => by
    rw [hg5.block i (by rw [hsz5]; omega) (by intro e; injection e with e; simp at e; omega)]
    exact heap_alloc_old W3 _ hi⟩
  have HB5 : Aside0 (Below w.heap.size w w5) := ⟨by
    refine Below.grown (pw_below_drewN (below_alloc H3.out.hb (.cells #[] 5)) 1) hg5 (by have := HS3.out; show _ ≤ (W3.alloc (.cells #[] 5)).drew.heap.size; have := HZ3.out; rw [hsz5]; omega) ?_
    intro k hk
    have := HS3.out
    have := HZ3.out
    injection hk with hk
    simp at hk
    omega⟩
  clear hr5 ho5 hg5 hempty hvown hsz5
  have d8 : w5.cell? ⟨g, 8, none⟩ = some v := cell_later c8 (HE5.out g (by have := HG3.out; have := HZ3.out; omega))
  have d9 : w5.cell? ⟨g, 9, none⟩ = some (.int .i64 n) := cell_later c9 (HE5.out g (by have := HG3.out; have := HZ3.out; omega))
  have HR5' : Aside0 (RW w w5 g g3 st v5 xs) := ⟨by rw [HE5.out g3 (by have := HZ3.out; omega)]; exact G3.out, by simpa using HO5.out, HB5.out, HS3.out⟩
  have HV5 : Aside0 (v5.ownBlock ≠ some g) := ⟨by
    have hg5 : w5.heap[g]? = some (.cells (Hc st v n) 84 (0, 0)) := (HE5.out g (by have := HG3.out; have := HZ3.out; omega)).trans H3.out.hg
    exact own_far5 HO5.out hg5 (by decide)⟩
  have HS5 : Aside0 (g < w5.heap.size) := ⟨by
    have hg5 : w5.heap[g]? = some (.cells (Hc st v n) 84 (0, 0)) := (HE5.out g (by have := HG3.out; have := HZ3.out; omega)).trans H3.out.hg
    exact (Array.getElem?_eq_some_iff.1 hg5).1⟩
  clear HO5 HG5 HE5 HB5
  go_region_held3 (fun w' : World => w'.cell? ⟨g, 8, none⟩ = some v ∧ w'.cell? ⟨g, 9, none⟩ = some (.int .i64 n)) (first | (exact ⟨‹_›, ‹_›⟩) | go_keep) (first | (refine step_append_own rfl _ _ 64 64 rfl _ v rfl rfl _ w5 HR5 ?_) | (refine step_append_own rfl _ _ 64 9 rfl _ (.string pad) rfl rfl _ w7 HR7 ?_) | (go_at_call 58; refine (sha_Pad.calls _ _ _ _ HP.out).mono ?_; rintro e w6 ⟨rfl, hb6⟩; have HR6 := Aside0.mk (HR5'.out.later hb6); have e8 := cell_later d8 (hb6.block g HS5.out); have e9 := cell_later d9 (hb6.block g HS5.out); obtain ⟨v7, w7, hr7, ho7, hg7⟩ := HR6.out.run pad (by have := HXL.out; have := HPS.out; omega) (Nat.ne_of_lt HG3.out) HV5.out (Nat.lt_of_lt_of_le HS5.out hb6.size); have HR7 := Aside0.mk hr7; have HO7 := Aside0.mk ho7; have f8 := cell_later e8 hg7; have f9 := cell_later e9 hg7; clear hr7 ho7 hg7 hb6))
  clear HR5 HR5' HV5 HS5 d8 d9 c8 c9 HR6 HR7 e8 e9 f8 f9 H3 G3 HZ3
  obtain ⟨A7, c7, e7⟩ := own_slice HO7.out.own
  subst e7
  obtain ⟨-, hL⟩ := HO7.out.start H8.out
  have HL := Aside0.mk hL
  clear hL HO7
  obtain ⟨l7, hl7⟩ : ∃ z, z = xs ++ bytesOf pad := ⟨_, rfl⟩
  rw [← hl7] at HL HM ⊢
  have HL7 := Aside0.mk hl7
  clear hl7
  obtain ⟨fin, hfin⟩ : ∃ z, z = absN m st l7 := ⟨_, rfl⟩
  have HFIN := Aside0.mk hfin
  clear hfin
  go_wp2_with fail
  go_loopw [4] (fun v4 wr => ∃ (k : Nat) (A : Option Addr) (c : Nat) (l st' : List Int), v4 = .slice A l.length c ∧ Aside0 (l.length = 64 * k) ∧ Aside0 (LW w wr g3 st' A c l) ∧ Aside0 (fin = absN k st' l)) (fun v4 _ => lenV v4)
  case atStart => exact ⟨m, A7, c7, l7, st, rfl, HM, HL, HFIN⟩
  case round =>
    clear HL
    obtain ⟨k, A, c, l, st', rfl, HK, HL, HF⟩ := hrel
    cases k with
    | succ k =>
      have hk := HK.out
      have hpos : (0 : Int) < l.length := by omega
      have h64 : 64 ≤ l.length := by omega
      have hc := HL.out.hc
      have hc64 : (64 : Int) ≤ c := by omega
      have hl64 : (64 : Int) ≤ l.length := by omega
      have hc0 : ¬ (c = 0) := by omega
      have h8 := HL.out.st8
      obtain ⟨b, hb⟩ : ∃ z, z = mixL st' (l.take 64) := ⟨_, rfl⟩
      have hb8 : b.length = 8 := by rw [hb]; exact mixL_len _ _ h8
      obtain ⟨a0, a1, a2, a3, a4, a5, a6, a7, hst⟩ := list8 st' h8
      obtain ⟨b0, b1, b2, b3, b4, b5, b6, b7, hfi⟩ := list8 b hb8
      subst hst
      subst hfi
      have HMIX := Aside0.mk (mixC (HL.out.drewN 1) h64 hb)
      have HB := Aside0.mk hb
      have H64 := Aside0.mk h64
      obtain ⟨q0, q1, q2, q3, q4, q5, q6, q7⟩ := HL.out.cells8
      clear hb hb8 h8 hk hc
      go_wp2_with fail
      go_region_law (go_simp; go_at_call 57; refine HMIX.out.mono ?_; rintro e w3 ⟨rfl, hb3⟩; have H3 := Aside0.mk ((HL.out.drewN 1).later hb3); clear hb3; obtain ⟨r0, r1, r2, r3, r4, r5, r6, r7⟩ := H3.out.cells8; have g0 := H3.out.froz 0; have g1 := H3.out.froz 1; have g2 := H3.out.froz 2; have g3' := H3.out.froz 3; have g4 := H3.out.froz 4; have g5 := H3.out.froz 5; have g6 := H3.out.froz 6; have g7 := H3.out.froz 7)
      all_goals
        have H4 := Aside0.mk (H3.out.set8 b0 b1 b2 b3 b4 b5 b6 b7)
        clear HL H3 q0 q1 q2 q3 q4 q5 q6 q7 r0 r1 r2 r3 r4 r5 r6 r7 g0 g1 g2 g3' g4 g5 g6 g7 HMIX
        generalize ((((((((w3.setCell ⟨g3, 0, none⟩ (.int .u32 b0)).setCell ⟨g3, 1, none⟩ (.int .u32 b1)).setCell ⟨g3, 2, none⟩ (.int .u32 b2)).setCell ⟨g3, 3, none⟩ (.int .u32 b3)).setCell ⟨g3, 4, none⟩ (.int .u32 b4)).setCell ⟨g3, 5, none⟩ (.int .u32 b5)).setCell ⟨g3, 6, none⟩ (.int .u32 b6)).setCell ⟨g3, 7, none⟩ (.int .u32 b7)) = W4 at H4 ⊢
        go_wp2_with fail
        go_roundw
        case rel =>
          refine ⟨k, (if c = 64 then A else A.map (·.add 64)), c - 64, l.drop 64, [b0, b1, b2, b3, b4, b5, b6, b7], ?_, ⟨by rw [List.length_drop, HK.out]; omega⟩, ⟨H4.out.cut H64.out⟩, ⟨by rw [HF.out, HB.out]; rfl⟩⟩
          rw [List.length_drop]
          rfl
        case measure => show l.length - 64 < l.length; omega
    | zero =>
      have hk := HK.out
      obtain rfl : l = [] := List.eq_nil_of_length_eq_zero (by omega)
      have HF2 : Aside0 (fin = st') := ⟨HF.out⟩
      have HS2 : Aside0 ((Try.prog.info? 81).map (·.size) = some (U st').size) := ⟨by rw [U_size, HL.out.st8]; exact size81⟩
      clear HF hk HK
      go_wp2_with (refine wpList_load_row rfl 81 (.tmp 3) rfl g3 rfl 81 (U st') (0, 0) _ HL.out.b3 Try.underlying81 rfl HS2.out ?_)
      have H82 := Aside0.mk HL.out.st8
      have HB := Aside0.mk HL.out.hb
      clear HL
      obtain ⟨i0, hi0, hz0, hz1, hz2⟩ := info_parts info5
      have HI0 := Aside0.mk hi0
      have HZ0 := Aside0.mk hz0
      have HZ1 := Aside0.mk hz1
      have HZ2 := Aside0.mk hz2
      clear hi0 hz0 hz1 hz2
      obtain ⟨wo, rfl⟩ : ∃ wo : World, wo = wr := ⟨_, rfl⟩
      go_loopw [36, 5] (fun v36 v5 wr => ∃ k : Nat, k ≤ 8 ∧ v36 = .int .i64 k ∧ Aside0 (wr.ownsRow w.heap.size 5 1 v5 (outN st' k).length (nums .u8 (outN st' k))) ∧ Aside0 (Below w.heap.size w wr)) (fun v36 _ _ => 8 - (intOf v36).toNat)
      case atStart => exact ⟨0, by omega, rfl, ⟨own_nil _ _ _ _⟩, HB⟩
      case round =>
        clear HB
        obtain ⟨k, hk, rfl, HO, HB⟩ := hrel
        by_cases hlt : k < 8
        · obtain ⟨x, hx⟩ : ∃ z, z = rd st' (k : Int) := ⟨_, rfl⟩
          have HX := Aside0.mk hx
          clear hx
          have HLT := Aside0.mk hlt
          go_wp2_with (first | (refine wpList_index_U rfl _ _ rfl st' k H82.out HLT.out rfl rfl ?_; rw [← HX.out]) | (refine wpList_append_own (P := Try.prog) _ rfl (.tmp 39) (.tmp 51) 64 rfl w.heap.size 5 i0 _ 1 1 Try.underlying64 HI0.out HZ0.out HZ1.out HZ2.out rfl (by decide) _ _ _ rfl (own_alloc HO.out _) ⟨wr.heap.size, 0, none⟩ 4 4 (nums .u8 (w4 x)) rfl rfl (new4 _ _ _ _ _) (by intro u hu; simp [nums] at hu; obtain ⟨z, _, rfl⟩ := hu; rfl) (by rw [outN_len]; unfold maxLen; omega) (by rw [outN_len]; omega) (below_alloc HB.out _).size ?_; intro v9 w9 h2 h3 _; have HO2 := Aside0.mk h2; have HB2 := Aside0.mk (Below.grown (below_alloc HB.out _) h3 (below_alloc HB.out _).size (fun k hk => own_base HO.out k hk)); clear h2 h3))
          go_roundw
          case rel => exact ⟨k + 1, by omega, by go_num, ⟨own4 (by rw [← HX.out]; exact HO2.out)⟩, HB2⟩
          case measure => simp [intOf]; omega
        · obtain rfl : k = 8 := by omega
          rw [show (((8 : Nat)) : Int) = (8 : Int) from rfl]
          go_wp2_with (refine wpList_conv_own rfl _ rfl _ rfl HO.out ?_)
          go_ret
          have hst' : st' = absN m st (xs ++ bytesOf pad) := by rw [← HF2.out, HFIN.out, HL7.out]
          rw [← hst']
          exact ⟨rfl, HB.out⟩
end Go.Proofs.Ytaomblcecjaedaa.P
