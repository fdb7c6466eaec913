/- What the claim on this statement wants of the text YtaomblcecjaedaaEShaA. Not trusted: Lean checks it. -/
import Derived.Test.YtaomblcecjaedaaK4Px2
import Derived.StillTailTactics
namespace Go.Proofs.Ytaomblcecjaedaa.P
open Go.RowKit Go.Proofs.YtaomblcecjaedaaW.PrintWords Go.Proofs.YtaomblcecjaedaaW.PrintLast Go.Proofs.YtaomblcecjaedaaW.PrintMore
set_option linter.unusedVariables false
set_option linter.unusedSimpArgs false
/-- The kit's law on a region that ends in one forced tail, with the draw under its own name. -/
theorem still_tail {P : Program} {id : Nat} {Q : Exit → Act → World → Prop} {a : Act} {w : World} {l : List Oper} (n : Nat) (hm : P.follows .mixedOrders = true) (hB : Region.lexTailB .any l.toArray n = true)
    (h : wpStill P l.toArray w.drew (fun a' => wpList P l.toArray Q (l.drop n) a' w.drew) (l.take n) a) : (Code.region id l.toArray true).wp P Q a w :=
  wp_region_still_tail n hm hB h
/-- Cells of words. -/
def U (xs : List Int) : Array Value := (xs.map (Value.int .u32)).toArray
theorem U_size (xs : List Int) : (U xs).size = xs.length := by simp [U]
theorem U_get (xs : List Int) (i : Nat) (h : i < xs.length) : (U xs)[i]? = some (.int .u32 (rd xs i)) := by
  simp [U, rd, h]
theorem U_set (xs : List Int) (i : Nat) (v : Int) : (U xs).setIfInBounds i (.int .u32 v) = U (xs.set i v) := by
  simp [U, List.map_set]
theorem U_cell {w : World} {g t : Nat} {xs : List Int} (h : w.heap[g]? = some (.cells (U xs) t (0, 0))) (i : Nat) (hi : i < xs.length) : w.cell? ⟨g, i, none⟩ = some (.int .u32 (rd xs i)) := by
  rw [cell_of_row w g i _ t _ h, U_get xs i hi]
theorem rotr_f (x n : Int) : ∃ r, sha_rotr.f x n = some r := by
  unfold sha_rotr.f bits_RotateLeft32.f
  have a1 : ∀ z : Int, 0 ≤ IntKind.u64.wrap z := fun z => by simp [IntKind.wrap, IntKind.bits, IntKind.signed]; omega
  have a2 : ∀ y z : Int, 0 ≤ Go.bits .and .u64 y z := fun y z => by unfold Go.bits; exact a1 _
  rw [if_pos (a2 _ _), if_pos (a1 _)]
  exact ⟨_, rfl⟩
def R (n x : Int) : Int := (sha_rotr.f x n).getD 0
theorem R_f (n x : Int) : sha_rotr.f x n = some (R n x) := by
  obtain ⟨r, hr⟩ := rotr_f x n
  unfold R
  rw [hr]
  rfl
def Wd (l : List Int) (i : Int) : Int := (sha_word.f l i).getD 0
theorem Wd_f (l : List Int) (i : Nat) (h : i + 3 < l.length) (hm : l.length ≤ 9223372036854775807) : sha_word.f l i = some (Wd l i) := by
  unfold Wd sha_word.f
  have w1 : wrap64 ((i : Int) + 1) = i + 1 := by unfold wrap64; omega
  have w2 : wrap64 ((i : Int) + 2) = i + 2 := by unfold wrap64; omega
  have w3 : wrap64 ((i : Int) + 3) = i + 3 := by unfold wrap64; omega
  rw [w1, w2, w3, if_pos (by omega), if_pos (by omega), if_pos (by omega), if_pos (by omega), if_pos (by omega), if_pos (by omega), if_pos (by omega), if_pos (by omega)]
  rfl
/-- The words of a block: the first so many are made. -/
def schedAt (l : List Int) (w : List Int) (t : Nat) : Int :=
  if t < 16 then Wd l ((4 * t : Nat) : Int) else
    (bits BinOp.xor IntKind.u32 (bits BinOp.xor IntKind.u32 (R 17 (rd w ((t - 2 : Nat) : Int))) (R 19 (rd w ((t - 2 : Nat) : Int)))) (rd w ((t - 2 : Nat) : Int) / 1024) + rd w ((t - 7 : Nat) : Int)
      + bits BinOp.xor IntKind.u32 (bits BinOp.xor IntKind.u32 (R 7 (rd w ((t - 15 : Nat) : Int))) (R 18 (rd w ((t - 15 : Nat) : Int)))) (rd w ((t - 15 : Nat) : Int) / 8) + rd w ((t - 16 : Nat) : Int)) % 4294967296
def sched (l : List Int) : Nat → List Int
  | 0 => List.replicate 64 0
  | t + 1 => (sched l t).set t (schedAt l (sched l t) t)
theorem sched_len (l : List Int) (t : Nat) : (sched l t).length = 64 := by
  induction t with
  | zero => simp [sched]
  | succ t ih => simp [sched, ih]
def zeros64 : Array Value := U (List.replicate 64 0)
theorem below_setRow {w W : World} {g : Nat} {cs : Array Value} (h : Below w.heap.size w W) (hg : w.heap.size ≤ g) : Below w.heap.size w (W.setRow g cs) :=
  ⟨h.os, h.tape, h.output, by simpa using h.size, fun i hi => by rw [setRow_other W g i cs (by omega)]; exact h.block i hi⟩
theorem U_ones (xs : List Int) : (U xs).all (·.oneCell') = true := by
  rw [Array.all_eq_true_iff_forall_mem]
  intro v hv
  simp [U] at hv
  obtain ⟨x, _, rfl⟩ := hv
  rfl
theorem size86 : (Try.prog.info? 86).map (·.size) = some 64 := by kernel_rfl
set_option maxHeartbeats 8000000 in
set_option maxRecDepth 100000 in
theorem schedule_calls (A0 : Option Addr) (c0 : Nat) (l : List Int) (w : World) (hr0 : Kd.C (Kd.int .u8) w A0 l.length l) (hc0 : l.length ≤ c0) (hl : 64 ≤ l.length) :
    Calls Try.prog 59 #[.slice A0 l.length c0] w fun e w' => e = .returned (.agg (U (sched l 64))) ∧ Below w.heap.size w w' := by
  have hmax : l.length ≤ 9223372036854775807 := hr0.2.1
  have HR0 := Aside0.mk hr0
  have HC0 := Aside0.mk hc0
  clear hr0 hc0
  go_enter Try.func59, Try.ntmps59
  go_wp2_with fail
  go_loopw [9] (fun v9 wr => ∃ k : Nat, k ≤ 64 ∧ v9 = .int .i64 k ∧ Aside0 (wr.heap[w.heap.size + 1]? = some (.cells (U (sched l k)) 86 (0, 0))) ∧ Aside0 (wr.heap[w.heap.size]? = some (.cells zeros64 86 (0, 0))) ∧ Aside0 (Below w.heap.size w wr)) (fun v9 _ => 64 - (intOf v9).toNat)
  case atStart => exact ⟨0, by omega, rfl, ⟨heap_alloc2_new _ _ _⟩, ⟨heap_alloc2_old _ _ _⟩, ⟨((Below.refl _ _).alloc (Nat.le_refl _) _).alloc (by simp) _⟩⟩
  case round =>
    obtain ⟨k, hk, rfl, HW, HZ, HB⟩ := hrel
    by_cases hlt : k < 64
    · by_cases h16 : k < 16
      · have hw := Wd_f l (4 * k) (by omega) hmax
        have HWd := Aside0.mk hw
        have hx := U_cell HW.out k (by rw [sched_len]; omega)
        have hf := frozen_of_row wr (w.heap.size + 1) k _ _ HW.out
        have HS : Aside0 (sched l (k + 1) = (sched l k).set k (Wd l ((4 * k : Nat) : Int))) := ⟨by simp only [sched, schedAt, if_pos h16]⟩
        obtain ⟨v, hv⟩ : ∃ v, v = Wd l ((4 * k : Nat) : Int) := ⟨_, rfl⟩
        rw [← hv] at HWd HS
        clear hv hw
        rw [show (((4 * k : Nat) : Int)) = 4 * (k : Int) from by omega] at HWd
        go_wp2_with fail
        refine (sha_word.calls _ _ _ _ _ _ (Kd.C_below HR0.out HB.out) HC0.out HWd.out).mono ?_
        rintro e w' ⟨rfl, ⟨nd, rfl⟩⟩
        go_wp2_with fail
        go_roundw
        case rel =>
          refine ⟨k + 1, by omega, by go_num, ⟨?_⟩, ⟨?_⟩, ⟨?_⟩⟩
          · rw [HS.out, ← U_set]
            exact heap_setCell_same _ _ _ _ _ _ HW.out
          · rw [heap_setCell_other _ _ _ _ (by simp)]
            exact HZ.out
          · exact below_set (pw_below_drewN HB.out _) (by simp)
        case measure => simp [intOf]; omega
      · have h15 := U_cell HW.out (k - 15) (by rw [sched_len]; omega)
        have h2 := U_cell HW.out (k - 2) (by rw [sched_len]; omega)
        have h7 := U_cell HW.out (k - 7) (by rw [sched_len]; omega)
        have h0 := U_cell HW.out (k - 16) (by rw [sched_len]; omega)
        have hx := U_cell HW.out k (by rw [sched_len]; omega)
        have hf := frozen_of_row wr (w.heap.size + 1) k _ _ HW.out
        obtain ⟨x, ex⟩ : ∃ z, z = rd (sched l k) ((k - 15 : Nat) : Int) := ⟨_, rfl⟩
        obtain ⟨y, ey⟩ : ∃ z, z = rd (sched l k) ((k - 2 : Nat) : Int) := ⟨_, rfl⟩
        obtain ⟨p, ep⟩ : ∃ z, z = rd (sched l k) ((k - 7 : Nat) : Int) := ⟨_, rfl⟩
        obtain ⟨q, eq⟩ : ∃ z, z = rd (sched l k) ((k - 16 : Nat) : Int) := ⟨_, rfl⟩
        rw [← ex] at h15
        rw [← ey] at h2
        rw [← ep] at h7
        rw [← eq] at h0
        have EX := Aside0.mk ex
        have EY := Aside0.mk ey
        have EP := Aside0.mk ep
        have EQ := Aside0.mk eq
        clear ex ey ep eq
        have hlt2 : (k : Int) < 64 := by omega
        have hge2 : 16 ≤ (k : Int) := by omega
        have z0 : IntKind.i64.wrap ((k : Int) - 15) = (k : Int) - 15 := by simp [IntKind.wrap, IntKind.bits, IntKind.signed]; omega
        have z1 : IntKind.i64.wrap ((k : Int) - 2) = (k : Int) - 2 := by simp [IntKind.wrap, IntKind.bits, IntKind.signed]; omega
        have z2 : ((k : Int) - 15).toNat = k - 15 := by omega
        have z3 : ((k : Int) - 2).toNat = k - 2 := by omega
        have z4 : (15 : Int) ≤ k := by omega
        have z5 : (2 : Int) ≤ k := by omega
        have z6 : (k : Int) - 15 < 64 := by omega
        have z7 : (k : Int) - 2 < 64 := by omega
        go_wp2_with fail
        go_quiet (fail)
        clear z0 z1 z2 z3 z4 z5 z6 z7
        go_wp2_with fail
        refine (sha_rotr.calls _ _ _ _ (R_f 7 x)).mono ?_
        rintro e w' ⟨rfl, ⟨n1, rfl⟩⟩
        go_wp2_with fail
        refine (sha_rotr.calls _ _ _ _ (R_f 18 x)).mono ?_
        rintro e w' ⟨rfl, ⟨n2, rfl⟩⟩
        go_wp2_with fail
        refine (sha_rotr.calls _ _ _ _ (R_f 17 y)).mono ?_
        rintro e w' ⟨rfl, ⟨n3, rfl⟩⟩
        go_wp2_with fail
        refine (sha_rotr.calls _ _ _ _ (R_f 19 y)).mono ?_
        rintro e w' ⟨rfl, ⟨n4, rfl⟩⟩
        go_wp2_with fail
        obtain ⟨s0, es0⟩ : ∃ z, z = bits BinOp.xor IntKind.u32 (bits BinOp.xor IntKind.u32 (R 7 x) (R 18 x)) (x / 8) := ⟨_, rfl⟩
        obtain ⟨s1, es1⟩ : ∃ z, z = bits BinOp.xor IntKind.u32 (bits BinOp.xor IntKind.u32 (R 17 y) (R 19 y)) (y / 1024) := ⟨_, rfl⟩
        rw [← es0, ← es1]
        have ES0 := Aside0.mk es0
        have ES1 := Aside0.mk es1
        clear es0 es1
        have z0 : IntKind.i64.wrap ((k : Int) - 7) = (k : Int) - 7 := by simp [IntKind.wrap, IntKind.bits, IntKind.signed]; omega
        have z1 : IntKind.i64.wrap ((k : Int) - 16) = (k : Int) - 16 := by simp [IntKind.wrap, IntKind.bits, IntKind.signed]; omega
        have z2 : ((k : Int) - 7).toNat = k - 7 := by omega
        have z3 : ((k : Int) - 16).toNat = k - 16 := by omega
        have z4 : (7 : Int) ≤ k := by omega
        have z5 : (16 : Int) ≤ k := by omega
        have z6 : (k : Int) - 7 < 64 := by omega
        have z7 : (k : Int) - 16 < 64 := by omega
        refine still_tail 15 (by kernel_rfl) (by kernel_rfl) ?_
        simp only [List.take_succ_cons, List.take_zero, List.drop_succ_cons, List.drop_zero, World.drew_drewN]
        repeat still_step
        refine wpStill_nil ?_
        clear z0 z1 z2 z3 z4 z5 z6 z7
        go_wp2_with fail
        refine ⟨⟨k + 1, by omega, by go_num, ⟨?_⟩, ⟨?_⟩, ⟨?_⟩⟩, by simp [intOf]; omega⟩
        · have hS : sched l (k + 1) = (sched l k).set k ((s1 + p + s0 + q) % 4294967296) := by
            rw [ES1.out, ES0.out, EX.out, EY.out, EP.out, EQ.out]
            simp only [sched, schedAt, if_neg h16]
          rw [hS, ← U_set]
          exact heap_setCell_same _ _ _ _ _ _ HW.out
        · rw [heap_setCell_other _ _ _ _ (by simp)]
          exact HZ.out
        · exact below_set (pw_below_drewN HB.out _) (by simp)
    · have hk64 : k = 64 := by omega
      subst hk64
      have hsz : (Try.prog.info? 86).map (·.size) = some (U (sched l 64)).size := by rw [U_size, sched_len]; exact size86
      have HSZ := Aside0.mk hsz
      clear hsz hlt
      go_wp2_with (first | (refine wpList_load_row rfl 86 _ rfl (w.heap.size + 1) rfl 86 _ (0, 0) _ HW.out Try.underlying86 rfl HSZ.out ?_) | (refine wpList_store_row rfl 86 _ _ rfl w.heap.size _ rfl rfl 86 _ HZ.out HSZ.out (by rw [U_size, sched_len]; simp [zeros64, U_size]) (U_ones _) ?_))
      exact bodyPost_ret (v := .agg (U (sched l 64))) (results_cell_row rfl _ _ w.heap.size 86 _ (0, 0) _ rfl (setRow_heap _ _ _ _ _ _ HZ.out) Try.underlying86 rfl HSZ.out) rfl ⟨rfl, below_setRow HB.out (Nat.le_refl _)⟩
end Go.Proofs.Ytaomblcecjaedaa.P
