/- What the claim on this statement wants of the text YtgcgnnblgimegaaERow. Not trusted: Lean checks it. -/
import Derived.Test.YtgcgnnblgimegaaK2Px0
import Derived.Test.YtgcgnnblgimegaaK2Red
import Derived.Laws.BitsAllLaws
namespace Go.Proofs.Ytgcgnnblgimegaa.P
open Go.RowKit Go.Proofs.YtgcgnnblgimegaaW.PrintWords Go.Proofs.YtgcgnnblgimegaaW.PrintLast Go.Proofs.YtgcgnnblgimegaaW.PrintMore
set_option linter.unusedVariables false
set_option linter.unusedSimpArgs false
/-- A world in which one row was written whole. -/
structure RowSet (w W : World) (g : Nat) (cs : Array Value) (t : TypeId) : Prop where
  at_ : W.heap[g]? = some (.cells cs t (0, 0))
  other : ∀ k, k ≠ g → W.heap[k]? = w.heap[k]?
  size : W.heap.size = w.heap.size
  os : W.os = w.os
  tape : W.tape = w.tape
  output : W.output = w.output
theorem RowSet.below {B : Nat} {w0 w W : World} {g : Nat} {cs : Array Value} {t : TypeId} (h : RowSet w W g cs t) (hb : Below B w0 w) (hg : B ≤ g) : Below B w0 W :=
  ⟨h.os.trans hb.os, h.tape.trans hb.tape, h.output.trans hb.output, by rw [h.size]; exact hb.size, fun i hi => by rw [h.other i (by omega)]; exact hb.block i hi⟩
section
variable {P : Program}
end
/-- The j-th word of a row of bits. -/
def wd (x : Nat) (j : Nat) : Int := ((x >>> (64 * j)) % 2 ^ 64 : Nat)
def rowV (x : Nat) : Value := .agg #[.int .u64 (wd x 0), .int .u64 (wd x 1), .int .u64 (wd x 2)]
theorem wd_bit (x j k : Nat) (hk : k < 64) : (bits BinOp.and IntKind.u64 (wd x j / 2 ^ k) 1 == 1) = x.testBit (64 * j + k) := by
  have e : wd x j / 2 ^ k = (((x >>> (64 * j)) % 2 ^ 64 / 2 ^ k : Nat) : Int) := by
    unfold wd
    simp
  have hlt : (x >>> (64 * j)) % 2 ^ 64 / 2 ^ k < 18446744073709551616 := Nat.lt_of_le_of_lt (Nat.div_le_self _ _) (Nat.mod_lt _ (by decide))
  rw [e]
  have := u64_and_nat ((x >>> (64 * j)) % 2 ^ 64 / 2 ^ k) 1 hlt (by decide)
  rw [show ((1 : Nat) : Int) = 1 from rfl] at this
  rw [this]
  have ht : x.testBit (64 * j + k) = ((x >>> (64 * j)) % 2 ^ 64).testBit k := by
    rw [Nat.testBit_mod_two_pow, Nat.testBit_shiftRight]; simp [hk]
  rw [ht]
  generalize (x >>> (64 * j)) % 2 ^ 64 = y
  rw [Nat.testBit, Nat.shiftRight_eq_div_pow, Nat.and_comm]
  generalize y / 2 ^ k = z
  have h2 : 1 &&& z = z % 2 := Nat.one_and_eq_mod_two z
  rw [h2]
  rcases Nat.mod_two_eq_zero_or_one z with h | h <;> rw [h] <;> rfl
theorem wd_xor (x y j : Nat) : bits BinOp.xor IntKind.u64 (wd x j) (wd y j) = wd (x ^^^ y) j := by
  unfold wd
  rw [u64_xor_nat _ _ (Nat.mod_lt _ (by decide)) (Nat.mod_lt _ (by decide))]
  congr 1
  rw [Nat.shiftRight_xor_distrib, Nat.xor_mod_two_pow]
theorem wd_or_same (x j k : Nat) (hk : k < 64) : bits BinOp.or IntKind.u64 (wd x j) (IntKind.u64.wrap (2 ^ k)) = wd (x ||| 1 <<< (64 * j + k)) j := by
  have h2 : 2 ^ k < 18446744073709551616 := by
    have := Nat.pow_lt_pow_right (a := 2) (by decide) hk
    exact this
  have hw : IntKind.u64.wrap (2 ^ k) = ((2 ^ k : Nat) : Int) := by
    rw [show ((2 : Int) ^ k) = ((2 ^ k : Nat) : Int) from (Int.natCast_pow 2 k).symm]
    have h3 : ((2 ^ k : Nat) : Int) < 18446744073709551616 := Int.ofNat_lt.2 h2
    have h4 : (0 : Int) ≤ ((2 ^ k : Nat) : Int) := Int.natCast_nonneg _
    generalize ((2 ^ k : Nat) : Int) = z at *
    simp only [IntKind.wrap, IntKind.bits, IntKind.signed]
    simp
    omega
  rw [hw]
  unfold wd
  rw [u64_or_nat _ _ (Nat.mod_lt _ (by decide)) h2]
  congr 1
  apply Nat.eq_of_testBit_eq
  intro b
  rw [Nat.testBit_or]
  have e1 := Nat.testBit_mod_two_pow (x >>> (64 * j)) 64 b
  have e2 := Nat.testBit_mod_two_pow ((x ||| 1 <<< (64 * j + k)) >>> (64 * j)) 64 b
  rw [show (2 : Nat) ^ 64 = 18446744073709551616 from rfl] at e1 e2 ⊢
  rw [e1, e2, Nat.testBit_shiftRight, Nat.testBit_shiftRight, Nat.testBit_or, Nat.one_shiftLeft, Nat.testBit_two_pow, Nat.testBit_two_pow]
  by_cases hb : b < 64
  · have e : decide (64 * j + k = 64 * j + b) = decide (k = b) := by
      by_cases e : k = b
      · subst e; simp
      · have : ¬ (64 * j + k = 64 * j + b) := by omega
        simp [e]
    simp [hb, e]
  · have : ¬ k = b := by omega
    simp [hb, this]
theorem wd_or_other (x j i : Nat) (h : i < 64 * j ∨ 64 * j + 64 ≤ i) : wd (x ||| 1 <<< i) j = wd x j := by
  unfold wd
  congr 1
  apply Nat.eq_of_testBit_eq
  intro b
  rw [Nat.testBit_mod_two_pow, Nat.testBit_mod_two_pow, Nat.testBit_shiftRight, Nat.testBit_shiftRight, Nat.testBit_or, Nat.one_shiftLeft, Nat.testBit_two_pow]
  by_cases hb : b < 64
  · have : ¬ i = 64 * j + b := by omega
    simp [this]
  · simp [hb]
set_option maxHeartbeats 1000000 in
set_option maxRecDepth 100000 in
theorem has_calls (x : Nat) (i : Int) (h0 : 0 ≤ i) (h1 : i < 192) (w : World) :
    Calls Try.prog 76 #[rowV x, .int .i64 i] w fun e w' => e = .returned (.bool (x.testBit i.toNat)) ∧ Below w.heap.size w w' := by
  unfold rowV
  by_cases h : i < 64
  · have hq : Int.tdiv i 64 = 0 := by rw [Int.tdiv_eq_ediv_of_nonneg h0]; omega
    have hr : Int.tmod i 64 = i := by rw [Int.tmod_eq_emod_of_nonneg h0]; omega
    have hb := wd_bit x 0 i.toNat (by omega)
    rw [show 64 * 0 + i.toNat = i.toNat by omega] at hb
    have HB := Aside0.mk hb
    clear hb
    go_enter Try.func76, Try.ntmps76
    go_wp2_with fail
    go_ret
    exact ⟨by rw [← HB.out]; rfl, below_alloc (Below.refl _ _) _⟩
  · by_cases h' : i < 128
    · have hq : Int.tdiv i 64 = 1 := by rw [Int.tdiv_eq_ediv_of_nonneg h0]; omega
      have hr : Int.tmod i 64 = i - 64 := by rw [Int.tmod_eq_emod_of_nonneg h0]; omega
      have hb := wd_bit x 1 (i - 64).toNat (by omega)
      rw [show 64 * 1 + (i - 64).toNat = i.toNat by omega] at hb
      have HB := Aside0.mk hb
      clear hb
      go_enter Try.func76, Try.ntmps76
      go_wp2_with fail
      go_ret
      exact ⟨by rw [← HB.out]; rfl, below_alloc (Below.refl _ _) _⟩
    · have hq : Int.tdiv i 64 = 2 := by rw [Int.tdiv_eq_ediv_of_nonneg h0]; omega
      have hr : Int.tmod i 64 = i - 128 := by rw [Int.tmod_eq_emod_of_nonneg h0]; omega
      have hb := wd_bit x 2 (i - 128).toNat (by omega)
      rw [show 64 * 2 + (i - 128).toNat = i.toNat by omega] at hb
      have HB := Aside0.mk hb
      clear hb
      go_enter Try.func76, Try.ntmps76
      go_wp2_with fail
      go_ret
      exact ⟨by rw [← HB.out]; rfl, below_alloc (Below.refl _ _) _⟩
theorem size72 : (Try.prog.info? 72).map (·.size) = some 3 := by kernel_rfl
theorem size74 : (Try.prog.info? 74).map (·.size) = some 4 := by kernel_rfl
theorem cell3 {w : World} {g : Nat} {a b c : Value} {t : TypeId} (h : w.heap[g]? = some (.cells #[a, b, c] t (0, 0))) :
    w.cell? ⟨g, 0, none⟩ = some a ∧ w.cell? ⟨g, 1, none⟩ = some b ∧ w.cell? ⟨g, 2, none⟩ = some c ∧ ∀ j, w.frozen? ⟨g, j, none⟩ = false :=
  ⟨by simp [World.cell?, h], by simp [World.cell?, h], by simp [World.cell?, h], fun j => frozen_of_row w g _ _ _ h⟩
/-- Three words in a block of the call's own, beside what else the call has laid. -/
structure Add3 (w W : World) (x y z : Value × Value × Value) : Prop where
  b0 : W.heap[w.heap.size]? = some (.cells #[x.1, x.2.1, x.2.2] 72 (0, 0))
  b1 : W.heap[w.heap.size + 1]? = some (.cells #[y.1, y.2.1, y.2.2] 72 (0, 0))
  b2 : W.heap[w.heap.size + 1 + 1]? = some (.cells #[z.1, z.2.1, z.2.2] 72 (0, 0))
  hb : Below w.heap.size w W
theorem Add3.set {w W : World} {x y z : Value × Value × Value} (h : Add3 w W x y z) (i : Nat) (u : Value) {x' : Value × Value × Value} (e : #[x.1, x.2.1, x.2.2].setIfInBounds i u = #[x'.1, x'.2.1, x'.2.2]) :
    Add3 w (W.setCell ⟨w.heap.size, i, none⟩ u).drew x' y z :=
  ⟨blk_put h.b0 i u e, (heap_setCell_other _ _ _ _ (by simp)).trans h.b1, (heap_setCell_other _ _ _ _ (by simp; omega)).trans h.b2, below_drew (below_set h.hb (Nat.le_refl _))⟩
theorem new3 (w : World) (X Y Z : Obj) : (((w.alloc X).alloc Y).alloc Z).heap[w.heap.size]? = some X ∧ (((w.alloc X).alloc Y).alloc Z).heap[w.heap.size + 1]? = some Y ∧ (((w.alloc X).alloc Y).alloc Z).heap[w.heap.size + 2]? = some Z := by
  have e1 : (w.alloc X).heap.size = w.heap.size + 1 := by show (w.heap.push X).size = _; simp
  have e2 : ((w.alloc X).alloc Y).heap.size = w.heap.size + 2 := by show ((w.alloc X).heap.push Y).size = _; simp [e1]
  refine ⟨?_, ?_, ?_⟩
  · rw [heap_alloc_old _ _ (by omega), heap_alloc_old _ _ (by omega)]; exact heap_alloc_new w X
  · rw [heap_alloc_old _ _ (by omega), ← e1]; exact heap_alloc_new _ Y
  · rw [← e2]; exact heap_alloc_new _ Z
set_option maxHeartbeats 1000000 in
set_option maxRecDepth 100000 in
theorem add_calls (x y : Nat) (w : World) :
    Calls Try.prog 107 #[rowV x, rowV y] w fun e w' => e = .returned (rowV (x ^^^ y)) ∧ Below w.heap.size w w' := by
  have H0 := Aside0.mk (wd_xor x y 0)
  have H1 := Aside0.mk (wd_xor x y 1)
  have H2 := Aside0.mk (wd_xor x y 2)
  unfold rowV
  generalize wd x 0 = x0 at *
  generalize wd x 1 = x1 at *
  generalize wd x 2 = x2 at *
  generalize wd y 0 = y0 at *
  generalize wd y 1 = y1 at *
  generalize wd y 2 = y2 at *
  generalize wd (x ^^^ y) 0 = z0 at *
  generalize wd (x ^^^ y) 1 = z1 at *
  generalize wd (x ^^^ y) 2 = z2 at *
  go_enter Try.func107, Try.ntmps107
  go_wp2_with fail
  go_loopw [6] (fun v6 wr => (v6 = .int .i64 0 ∧ Aside0 (Add3 w wr (.int .u64 x0, .int .u64 x1, .int .u64 x2) (.int .u64 y0, .int .u64 y1, .int .u64 y2) (.int .u64 0, .int .u64 0, .int .u64 0))) ∨ (v6 = .int .i64 1 ∧ Aside0 (Add3 w wr (.int .u64 z0, .int .u64 x1, .int .u64 x2) (.int .u64 y0, .int .u64 y1, .int .u64 y2) (.int .u64 0, .int .u64 0, .int .u64 0))) ∨ (v6 = .int .i64 2 ∧ Aside0 (Add3 w wr (.int .u64 z0, .int .u64 z1, .int .u64 x2) (.int .u64 y0, .int .u64 y1, .int .u64 y2) (.int .u64 0, .int .u64 0, .int .u64 0))) ∨ (v6 = .int .i64 3 ∧ Aside0 (Add3 w wr (.int .u64 z0, .int .u64 z1, .int .u64 z2) (.int .u64 y0, .int .u64 y1, .int .u64 y2) (.int .u64 0, .int .u64 0, .int .u64 0)))) (fun v6 _ => 3 - (intOf v6).toNat)
  case atStart => exact .inl ⟨rfl, ⟨⟨(new3 _ _ _ _).1, (new3 _ _ _ _).2.1, (new3 _ _ _ _).2.2, below_alloc (below_alloc (below_alloc (Below.refl _ _) _) _) _⟩⟩⟩
  case round =>
    rcases hrel with ⟨rfl, HA⟩ | ⟨rfl, HA⟩ | ⟨rfl, HA⟩ | ⟨rfl, HA⟩
    · obtain ⟨c0, c1, c2, cf⟩ := cell3 HA.out.b0
      obtain ⟨d0, d1, d2, -⟩ := cell3 HA.out.b1
      have f0 := cf 0
      clear cf
      go_wp2_with fail
      go_region
      go_wp2_with fail
      go_round
      case rel =>
        rw [H0.out]
        exact .inr (.inl ⟨rfl, ⟨HA.out.set 0 _ rfl⟩⟩)
      case measure => simp [intOf]
    · obtain ⟨c0, c1, c2, cf⟩ := cell3 HA.out.b0
      obtain ⟨d0, d1, d2, -⟩ := cell3 HA.out.b1
      have f0 := cf 1
      clear cf
      go_wp2_with fail
      go_region
      go_wp2_with fail
      go_round
      case rel =>
        rw [H1.out]
        exact .inr (.inr (.inl ⟨rfl, ⟨HA.out.set 1 _ rfl⟩⟩))
      case measure => simp [intOf]
    · obtain ⟨c0, c1, c2, cf⟩ := cell3 HA.out.b0
      obtain ⟨d0, d1, d2, -⟩ := cell3 HA.out.b1
      have f0 := cf 2
      clear cf
      go_wp2_with fail
      go_region
      go_wp2_with fail
      go_round
      case rel =>
        rw [H2.out]
        exact .inr (.inr (.inr (⟨rfl, ⟨HA.out.set 2 _ rfl⟩⟩)))
      case measure => simp [intOf]
    · obtain ⟨c0, c1, c2, cf⟩ := cell3 HA.out.b0
      obtain ⟨e0, e1, e2, ef⟩ := cell3 HA.out.b2
      go_wp2_with fail
      exact bodyPost_ret (v := .agg #[.int .u64 z0, .int .u64 z1, .int .u64 z2]) (results_cell_row rfl _ _ (w.heap.size + 1 + 1) 72 #[.int .u64 z0, .int .u64 z1, .int .u64 z2] (0, 0) _ rfl (blk_put (blk_put (blk_put HA.out.b2 0 _ rfl) 1 _ rfl) 2 _ rfl) Try.underlying72 rfl size72) rfl
        ⟨rfl, below_set (below_set (below_set HA.out.hb (by omega)) (by omega)) (by omega)⟩
def ofL (l : List Int) : Nat := l.foldl (fun x i => x ||| 1 <<< i.toNat) 0
theorem ofL_snoc (l : List Int) (k : Nat) (h : k < l.length) : ofL (l.take (k + 1)) = ofL (l.take k) ||| 1 <<< (rd l (k : Int)).toNat := by
  have e : rd l (k : Int) = l[k] := by simp [rd, h]
  unfold ofL
  rw [e, List.take_succ_eq_append_getElem h, List.foldl_append]
  rfl
theorem ofL_bit (l : List Int) (i : Nat) : (ofL l).testBit i = l.any (fun a => a.toNat == i) := by
  have : ∀ (l : List Int) (x : Nat), (l.foldl (fun x i => x ||| 1 <<< i.toNat) x).testBit i = (x.testBit i || l.any (fun a => a.toNat == i)) := by
    intro l
    induction l with
    | nil => intro x; simp
    | cons a l ih =>
      intro x
      rw [List.foldl_cons, ih, Nat.testBit_or, Nat.one_shiftLeft, Nat.testBit_two_pow, List.any_cons, Bool.or_assoc]
      rfl
  unfold ofL
  rw [this, Nat.zero_testBit]
  simp
structure Of3 (w W : World) (x : Nat) : Prop where
  b0 : W.heap[w.heap.size]? = some (.cells #[.int .u64 0, .int .u64 0, .int .u64 0] 72 (0, 0))
  b1 : W.heap[w.heap.size + 1]? = some (.cells #[.int .u64 (wd x 0), .int .u64 (wd x 1), .int .u64 (wd x 2)] 72 (0, 0))
  hb : Below w.heap.size w W
theorem Of3.set {w W : World} {x : Nat} (h : Of3 w W x) (i : Nat) (u : Value) {x' : Nat} (e : #[Value.int .u64 (wd x 0), .int .u64 (wd x 1), .int .u64 (wd x 2)].setIfInBounds i u = #[.int .u64 (wd x' 0), .int .u64 (wd x' 1), .int .u64 (wd x' 2)]) :
    Of3 w (W.setCell ⟨w.heap.size + 1, i, none⟩ u).drew x' :=
  ⟨(heap_setCell_other _ _ _ _ (by simp)).trans h.b0, blk_put h.b1 i u e, below_drew (below_set h.hb (by omega))⟩
set_option maxHeartbeats 1000000 in
set_option maxRecDepth 100000 in
theorem of_calls' (A0 : Option Addr) (c0 : Nat) (l : List Int) (w : World) (hr : Kd.C (Kd.int .i64) w A0 l.length l) (hc : l.length ≤ c0) (hl : ∀ i ∈ l, 0 ≤ i ∧ i < 192) :
    Calls Try.prog 72 #[.slice A0 l.length c0] w fun e w' => e = .returned (.agg #[.int .u64 (wd (ofL l) 0), .int .u64 (wd (ofL l) 1), .int .u64 (wd (ofL l) 2)]) ∧ Below w.heap.size w w' := by
  have HR := Aside0.mk hr
  have HL := Aside0.mk hl
  have hmax : l.length ≤ 9223372036854775807 := hr.2.1
  clear hr hl
  go_enter Try.func72, Try.ntmps72
  go_wp2_with fail
  go_loopw [8] (fun v8 wr => ∃ k : Nat, k ≤ l.length ∧ v8 = .int .i64 k ∧ Aside0 (Of3 w wr (ofL (l.take k)))) (fun v8 _ => l.length - (intOf v8).toNat)
  case atStart => exact ⟨0, by omega, rfl, ⟨⟨heap_alloc2_old _ _ _, by rw [heap_alloc2_new, List.take_zero, show ofL [] = 0 from rfl, show wd 0 0 = 0 from rfl, show wd 0 1 = 0 from rfl, show wd 0 2 = 0 from rfl], below_alloc (below_alloc (Below.refl _ _) _) _⟩⟩⟩
  case round =>
    obtain ⟨k, hk, rfl, HA⟩ := hrel
    by_cases hlt : k < l.length
    · obtain ⟨ad, e, hx⟩ := Kd.at_int HR.out (k : Int) (by omega) (by omega)
      cases e
      have HX := (Kd.C_below HR.out HA.out.hb)
      rw [Int.toNat_natCast] at hx
      have hx' := pw_cell_below HA.out.hb hx
      have HS := Aside0.mk (ofL_snoc l k hlt)
      have hin := HL.out (rd l (k : Int)) (by simp [rd, hlt])
      obtain ⟨i, hi⟩ : ∃ i, i = rd l (k : Int) := ⟨_, rfl⟩
      rw [← hi] at hx' HS hin
      obtain ⟨c0, c1, c2, cf⟩ := cell3 HA.out.b1
      clear hx HX hi
      by_cases h : i < 64
      · have hq : Int.tdiv i 64 = 0 := by rw [Int.tdiv_eq_ediv_of_nonneg hin.1]; omega
        have hr : Int.tmod i 64 = i := by rw [Int.tmod_eq_emod_of_nonneg hin.1]; omega
        have f0 := cf 0
        clear cf
        go_wp2_with fail
        go_region
        go_wp2_with fail
        go_round
        case rel =>
          refine ⟨k + 1, by omega, by go_num, ⟨HA.out.set 0 _ ?_⟩⟩
          have e := wd_or_same (ofL (l.take k)) 0 (i).toNat (by omega)
          rw [show 64 * 0 + (i).toNat = i.toNat by omega] at e
          rw [HS.out, e, wd_or_other (ofL (l.take k)) 1 i.toNat (by omega), wd_or_other (ofL (l.take k)) 2 i.toNat (by omega)]
          rfl
        case measure => simp [intOf]; omega
      · by_cases h' : i < 128
        · have hq : Int.tdiv i 64 = 1 := by rw [Int.tdiv_eq_ediv_of_nonneg hin.1]; omega
          have hr : Int.tmod i 64 = i - 64 := by rw [Int.tmod_eq_emod_of_nonneg hin.1]; omega
          have f0 := cf 1
          clear cf
          go_wp2_with fail
          go_region
          go_wp2_with fail
          go_round
          case rel =>
            refine ⟨k + 1, by omega, by go_num, ⟨HA.out.set 1 _ ?_⟩⟩
            have e := wd_or_same (ofL (l.take k)) 1 (i - 64).toNat (by omega)
            rw [show 64 * 1 + (i - 64).toNat = i.toNat by omega] at e
            rw [HS.out, e, wd_or_other (ofL (l.take k)) 0 i.toNat (by omega), wd_or_other (ofL (l.take k)) 2 i.toNat (by omega)]
            rfl
          case measure => simp [intOf]; omega
        · have hq : Int.tdiv i 64 = 2 := by rw [Int.tdiv_eq_ediv_of_nonneg hin.1]; omega
          have hr : Int.tmod i 64 = i - 128 := by rw [Int.tmod_eq_emod_of_nonneg hin.1]; omega
          have f0 := cf 2
          clear cf
          go_wp2_with fail
          go_region
          go_wp2_with fail
          go_round
          case rel =>
            refine ⟨k + 1, by omega, by go_num, ⟨HA.out.set 2 _ ?_⟩⟩
            have e := wd_or_same (ofL (l.take k)) 2 (i - 128).toNat (by omega)
            rw [show 64 * 2 + (i - 128).toNat = i.toNat by omega] at e
            rw [HS.out, e, wd_or_other (ofL (l.take k)) 0 i.toNat (by omega), wd_or_other (ofL (l.take k)) 1 i.toNat (by omega)]
            rfl
          case measure => simp [intOf]; omega
    · have hk' : k = l.length := by omega
      subst hk'
      have HX : Aside0 (Of3 w wr (ofL l)) := ⟨by have := HA.out; rwa [List.take_length] at this⟩
      clear HA
      obtain ⟨x, hx⟩ : ∃ x, x = ofL l := ⟨_, rfl⟩
      rw [← hx] at HX
      have HE := Aside0.mk hx
      clear hx
      obtain ⟨c0, c1, c2, cf⟩ := cell3 HX.out.b1
      obtain ⟨e0, e1, e2, ef⟩ := cell3 HX.out.b0
      go_wp2_with fail
      exact bodyPost_ret (v := .agg #[.int .u64 (wd x 0), .int .u64 (wd x 1), .int .u64 (wd x 2)]) (results_cell_row rfl _ _ w.heap.size 72 #[.int .u64 (wd x 0), .int .u64 (wd x 1), .int .u64 (wd x 2)] (0, 0) _ rfl (blk_put (blk_put (blk_put HX.out.b0 0 _ rfl) 1 _ rfl) 2 _ rfl) Try.underlying72 rfl size72) rfl
        ⟨by rw [← HE.out], below_set (below_set (below_set HX.out.hb (by omega)) (by omega)) (by omega)⟩
theorem of_calls (A0 : Option Addr) (c0 : Nat) (l : List Int) (w : World) (hr : Kd.C (Kd.int .i64) w A0 l.length l) (hc : l.length ≤ c0) (hl : ∀ i ∈ l, 0 ≤ i ∧ i < 192) :
    Calls Try.prog 72 #[.slice A0 l.length c0] w fun e w' => e = .returned (rowV (ofL l)) ∧ Below w.heap.size w w' := of_calls' A0 c0 l w hr hc hl
end Go.Proofs.Ytgcgnnblgimegaa.P
