/- What the claim on this statement wants of the text YtomhhbjebgghnaaENet. Not trusted: Lean checks it. -/
import Derived.Test.YtomhhbjebgghnaaN3EMap
import Derived.Test.YtomhhbjebgghnaaN3Px4
import Derived.Deep.QuietTactic
import Derived.BigQuiet
import Derived.StillTailTactics
import Derived.Deep.RegionHeld3
import Derived.Deep.DeepCutAuto
import Derived.WalkSpells
namespace Go.Proofs.Ytomhhbjebgghnaa.P
open Go.RowKit Go.Proofs.YtomhhbjebgghnaaW.PrintWords Go.Proofs.YtomhhbjebgghnaaW.PrintLast Go.Proofs.YtomhhbjebgghnaaW.PrintMore
open Go.Proofs.Ytomhhbjebgghnaa.Emap
set_option linter.unusedVariables false
set_option linter.unusedSimpArgs false
theorem still_tail {P : Program} {id : Nat} {Q : Exit → Act → World → Prop} {a : Act} {w : World} {l : List Oper} (n : Nat) (hm : P.follows .mixedOrders = true) (hB : Region.lexTailB .any l.toArray n = true)
    (h : wpStill P l.toArray w.drew (fun a' => wpList P l.toArray Q (l.drop n) a' w.drew) (l.take n) a) : (Code.region id l.toArray true).wp P Q a w :=
  wp_region_still_tail n hm hB h
def gV (x : S29) : Value := .agg #[.int .i64 x.f0, .int .i64 x.f1, .string x.f2]
def kInt (k : Int) : Value := .int .i64 k
def kGood (k : Int) : Prop := (Lit.int .i64 k).wf = true
theorem kOk : KOk Try.prog 3 kInt kGood := ⟨Go.Maps.int_keyed Try.underlying3, fun k h => ⟨_, Go.Maps.keyOf_int_mk Try.underlying3 h⟩, fun a b h => by cases h; rfl⟩
/-- What a net at g holds: its room, the last number, the datagrams by their numbers. -/
structure NetAt (w : World) (g b : Nat) (room last : Int) (M : List (Int × S29)) : Prop where
  box : w.heap[g]? = some (.cells #[.int .i64 room, .int .i64 last, .map (some b)] 65 (0, 0))
  map : ∃ es clock, w.heap[b]? = some (.map es clock) ∧ Ents kGood kInt gV es clock M
/-- All but the net's own blocks is as it was. -/
structure Near (w w' : World) (g b : Nat) : Prop where
  os : w'.os = w.os
  tape : w'.tape = w.tape
  output : w'.output = w.output
  size : w.heap.size ≤ w'.heap.size
  block : ∀ k, k < w.heap.size → k ≠ g → k ≠ b → w'.heap[k]? = w.heap[k]?
theorem Near.refl (w : World) (g b : Nat) : Near w w g b := ⟨rfl, rfl, rfl, Nat.le_refl _, fun _ _ _ _ => rfl⟩
theorem Near.trans {w w1 w2 : World} {g b : Nat} (h : Near w w1 g b) (k : Near w1 w2 g b) : Near w w2 g b :=
  ⟨k.os.trans h.os, k.tape.trans h.tape, k.output.trans h.output, Nat.le_trans h.size k.size, fun i hi h1 h2 => (k.block i (Nat.lt_of_lt_of_le hi h.size) h1 h2).trans (h.block i hi h1 h2)⟩
theorem Near.of {w w1 : World} {g b : Nat} (h : Below w.heap.size w w1) : Near w w1 g b := ⟨h.os, h.tape, h.output, h.size, fun i hi _ _ => h.block i hi⟩
theorem Near.grown {w w1 : World} {g b : Nat} (h : w.grownBy w1 (some b)) : Near w w1 g b := ⟨h.os, h.tape, h.output, h.size, fun i hi _ h2 => h.block i hi (fun e => h2 (by cases e; rfl))⟩
theorem Near.set {w : World} {g b : Nat} (j : Nat) (v : Value) : Near w (w.setCell ⟨g, j, none⟩ v) g b :=
  ⟨rfl, rfl, rfl, by simp [World.setCell], fun i hi h1 _ => Below.heap_setCell w ⟨g, j, none⟩ v i h1⟩
theorem Near.below {w0 w w1 : World} {g b : Nat} (h : Near w w1 g b) (hB : Below w0.heap.size w0 w) (hg : w0.heap.size ≤ g) (hb : w0.heap.size ≤ b) : Below w0.heap.size w0 w1 :=
  ⟨h.os.trans hB.os, h.tape.trans hB.tape, h.output.trans hB.output, Nat.le_trans hB.size h.size, fun i hi => (h.block i (Nat.lt_of_lt_of_le hi hB.size) (by omega) (by omega)).trans (hB.block i hi)⟩
theorem NetAt.lt {w : World} {g b : Nat} {room last : Int} {M : List (Int × S29)} (h : NetAt w g b room last M) : g < w.heap.size ∧ b < w.heap.size := by
  obtain ⟨es, clock, hb, _⟩ := h.map
  exact ⟨(Array.getElem?_eq_some_iff.1 h.box).1, (Array.getElem?_eq_some_iff.1 hb).1⟩
theorem NetAt.ne {w : World} {g b : Nat} {room last : Int} {M : List (Int × S29)} (h : NetAt w g b room last M) : b ≠ g := by
  obtain ⟨es, clock, hb, _⟩ := h.map
  intro e; subst e
  rw [h.box] at hb; cases hb
theorem NetAt.later {w w1 : World} {g b : Nat} {room last : Int} {M : List (Int × S29)} (h : NetAt w g b room last M) (hb : Below w.heap.size w w1) : NetAt w1 g b room last M := by
  obtain ⟨es, clock, hm, he⟩ := h.map
  exact ⟨(hb.block g h.lt.1).trans h.box, es, clock, (hb.block b h.lt.2).trans hm, he⟩
theorem cell3n {w : World} {g : Nat} {a b c : Value} {t : TypeId} (h : w.heap[g]? = some (.cells #[a, b, c] t (0, 0))) :
    w.cell? ⟨g, 0, none⟩ = some a ∧ w.cell? ⟨g, 1, none⟩ = some b ∧ w.cell? ⟨g, 2, none⟩ = some c ∧ ∀ j, w.frozen? ⟨g, j, none⟩ = false := by
  refine ⟨?_, ?_, ?_, fun j => frozen_of_row w g j _ _ h⟩ <;> simp only [World.cell?, h] <;> rfl
set_option maxHeartbeats 1000000 in
theorem new_calls (room : Int) (h1 : 1 ≤ room) (h2 : room ≤ 600) (w : World) :
    Calls Try.prog 7 #[.int .i64 room] w fun e w' => ∃ g b : Nat, e = .returned (.pointer (some ⟨g, 0, none⟩)) ∧ w.heap.size ≤ g ∧ w.heap.size ≤ b ∧ NetAt w' g b room 0 [] ∧ Below w.heap.size w w' := by
  have hmm := @run_makeMap Try.prog
  go_enter Try.func7, Try.ntmps7
  go_wp2_with fail
  go_ret
  exact ⟨w.heap.size + 1, w.heap.size, rfl, by omega, Nat.le_refl _, ⟨heap_alloc2_new w _ _, ⟨#[], 0, heap_alloc2_old w _ _, Ents.nil⟩⟩, below_alloc (below_alloc (Below.refl _ w) _) _⟩
theorem len_all {w : World} {g b : Nat} {room last : Int} {M : List (Int × S29)} (h : NetAt w g b room last M) (nq : Nat) : (Builtin.len_ #[63] 3 #[.map (some b)]).run Try.prog (w.drewN nq) = .ok (.int .i64 M.length) (w.drewN nq) := by
  obtain ⟨es, clock, hm, he⟩ := h.map
  exact len_ok he Try.underlying63 hm
set_option maxHeartbeats 1000000 in
theorem put_full (g b : Nat) (room last : Int) (M : List (Int × S29)) (x : S29) (w : World) (hn : NetAt w g b room last M) (hf : room ≤ (M.length : Int)) :
    Calls Try.prog 29 #[.pointer (some ⟨g, 0, none⟩), gV x] w fun e w' => e = .returned (.tuple #[.int .i64 0, .int .i64 6]) ∧ Below w.heap.size w w' := by
  have hb1 := below_alloc (Below.refl w.heap.size w) (.cells #[.int .i64 x.f0, .int .i64 x.f1, .string x.f2] 29)
  have hN := hn.later hb1
  have hl := len_all hN
  obtain ⟨c0, c1, c2, cf⟩ := cell3n hN.box
  have HB := Aside0.mk hb1
  unfold gV
  clear hn hN hb1
  go_enter Try.func29, Try.ntmps29
  go_wp2_with fail
  go_quiet (fail)
  go_wp2_with fail
  go_ret2
  exact ⟨rfl, pw_below_drewN HB.out _⟩
theorem NetAt.put {w : World} {g b : Nat} {room last : Int} {M : List (Int × S29)} (h : NetAt w g b room last M) (hl0 : 0 ≤ last) (hl1 : last ≤ 1000000) (hle : ∀ p ∈ M, p.1 ≤ last) (x : S29) :
    ∃ w1, (Instr.mapUpdate 63 (.map (some b)) (.int .i64 (last + 1)) (gV x)).run Try.prog (w.setCell ⟨g, 1, none⟩ (.int .i64 (last + 1))) = .ok () w1 ∧ NetAt w1 g b room (last + 1) (M ++ [(last + 1, x)]) ∧ Near w w1 g b := by
  obtain ⟨es, clock, hm, he⟩ := h.map
  have hbx := blk_put h.box 1 (.int .i64 (last + 1)) rfl
  have hm1 : (w.setCell ⟨g, 1, none⟩ (.int .i64 (last + 1))).heap[b]? = some (.map es clock) := (Below.heap_setCell w ⟨g, 1, none⟩ _ b h.ne).trans hm
  obtain ⟨h1, h2⟩ := store_ok he kOk Try.underlying63 hm1 (k := last + 1) (by unfold kGood; exact WalkArith.wf_i64 (by omega)) (fun p hp e => by have := hle p hp; omega) x
  refine ⟨_, h1, ⟨?_, _, _, Emap.put_same (Array.getElem?_eq_some_iff.1 hm1).1 _, h2⟩, (Near.set 1 _).trans (Near.grown (put_grown _ _ _))⟩
  exact (Emap.put_other (fun e => h.ne e.symm) _).trans hbx
set_option maxHeartbeats 1000000 in
theorem put_room (g b : Nat) (room last : Int) (M : List (Int × S29)) (x : S29) (w : World) (hn : NetAt w g b room last M) (hf : (M.length : Int) < room) (hl0 : 0 ≤ last) (hl1 : last ≤ 1000000) (hle : ∀ p ∈ M, p.1 ≤ last) :
    Calls Try.prog 29 #[.pointer (some ⟨g, 0, none⟩), gV x] w fun e w' => e = .returned (.tuple #[.int .i64 (last + 1), .int .i64 0]) ∧ NetAt w' g b room (last + 1) (M ++ [(last + 1, x)]) ∧ Near w w' g b := by
  obtain ⟨W, hW⟩ : ∃ W, W = w.alloc (.cells #[.int .i64 x.f0, .int .i64 x.f1, .string x.f2] 29) := ⟨_, rfl⟩
  have hb1 : Below w.heap.size w W := by rw [hW]; exact below_alloc (Below.refl w.heap.size w) _
  have hN := hn.later hb1
  have hl := len_all hN
  obtain ⟨c0, c1, c2, cf⟩ := cell3n hN.box
  have hx : W.heap[w.heap.size]? = some (.cells #[.int .i64 x.f0, .int .i64 x.f1, .string x.f2] 29 (0, 0)) := by rw [hW]; exact heap_alloc_new _ _
  obtain ⟨x0, x1, x2, -⟩ := cell3n hx
  have HB := Aside0.mk hb1
  have HN := Aside0.mk hN
  have HLE := Aside0.mk hle
  have hgl : g < w.heap.size := hn.lt.1
  obtain ⟨gx, hgx⟩ : ∃ gx, gx = w.heap.size := ⟨_, rfl⟩
  rw [← hgx] at x0 x1 x2 hgl
  have hne : ¬ gx = g := by omega
  have hne' : ¬ g = gx := by omega
  unfold gV
  clear hn hN hb1 hle hx
  go_enter Try.func29, Try.ntmps29
  go_wp2_with fail
  rw [← hgx, ← hW]
  clear hgx hW
  go_quiet (fail)
  go_wp2_with fail
  obtain ⟨W2, hW2⟩ : ∃ W2, W2 = (W.drewN nq).setCell ⟨g, 1, none⟩ (.int .i64 (last + 1)) := ⟨_, rfl⟩
  rw [← hW2]
  have hN1 : NetAt ((W.drewN nq).drew) g b room last M := HN.out.later (below_drew1 (pw_below_drewN (Below.refl _ W) nq))
  obtain ⟨w1, hrun, hN2, hNear⟩ := hN1.put hl0 hl1 HLE.out x
  have hrun' : (Instr.mapUpdate 63 (.map (some b)) (.int .i64 (last + 1)) (.agg #[.int .i64 x.f0, .int .i64 x.f1, .string x.f2])).run Try.prog W2.drew = .ok () w1 := by rw [hW2]; exact hrun
  obtain ⟨d0, d1, d2, df⟩ := cell3n (show W2.heap[g]? = _ by rw [hW2]; exact blk_put (w := W.drewN nq) HN.out.box 1 _ rfl)
  have y0 : W2.cell? ⟨gx, 0, none⟩ = some (.int .i64 x.f0) := by rw [hW2]; exact (World.cell?_of_block (w := W) (a := ⟨gx, 0, none⟩) (Below.heap_setCell (W.drewN nq) ⟨g, 1, none⟩ _ gx hne)).trans x0
  have y1 : W2.cell? ⟨gx, 1, none⟩ = some (.int .i64 x.f1) := by rw [hW2]; exact (World.cell?_of_block (w := W) (a := ⟨gx, 1, none⟩) (Below.heap_setCell (W.drewN nq) ⟨g, 1, none⟩ _ gx hne)).trans x1
  have y2 : W2.cell? ⟨gx, 2, none⟩ = some (.string x.f2) := by rw [hW2]; exact (World.cell?_of_block (w := W) (a := ⟨gx, 2, none⟩) (Below.heap_setCell (W.drewN nq) ⟨g, 1, none⟩ _ gx hne)).trans x2
  obtain ⟨e0, e1, e2, ef⟩ := cell3n hN2.box
  have HFIN : Aside0 (NetAt w1 g b room (last + 1) (M ++ [(last + 1, x)]) ∧ Near w w1 g b) := ⟨hN2, (Near.of (below_drew1 (pw_below_drewN HB.out nq))).trans hNear⟩
  clear hN1 hrun hN2 hNear hW2 c0 c1 c2 cf x0 x1 x2 hl
  refine still_tail 9 (by kernel_rfl) (by kernel_rfl) ?_
  simp only [List.take_succ_cons, List.take_zero, List.drop_succ_cons, List.drop_zero]
  repeat still_step
  refine wpStill_nil ?_
  go_wp2_with fail
  go_ret2
  exact ⟨rfl, HFIN.out⟩
end Go.Proofs.Ytomhhbjebgghnaa.P
