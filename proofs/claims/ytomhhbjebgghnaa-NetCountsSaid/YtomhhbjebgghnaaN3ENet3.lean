/- What the claim on this statement wants of the text YtomhhbjebgghnaaENet3. Not trusted: Lean checks it. -/
import Derived.Test.YtomhhbjebgghnaaN3ENet2
namespace Go.Proofs.Ytomhhbjebgghnaa.P
open Go.RowKit Go.Proofs.YtomhhbjebgghnaaW.PrintWords Go.Proofs.YtomhhbjebgghnaaW.PrintLast Go.Proofs.YtomhhbjebgghnaaW.PrintMore
open Go.Proofs.Ytomhhbjebgghnaa.Emap
set_option linter.unusedVariables false
set_option linter.unusedSimpArgs false
theorem NetAt.far {w : World} {g b p : Nat} {room last : Int} {M : List (Int × S29)} (h : NetAt w g b room last M) (h1 : g ≠ p) (h2 : b ≠ p) (j : Nat) (v : Value) : NetAt (w.setCell ⟨p, j, none⟩ v) g b room last M := by
  obtain ⟨es, clock, hm, he⟩ := h.map
  exact ⟨(Below.heap_setCell w ⟨p, j, none⟩ v g h1).trans h.box, es, clock, (Below.heap_setCell w ⟨p, j, none⟩ v b h2).trans hm, he⟩
theorem Near.far {w w1 : World} {g b p : Nat} (h : Near w w1 g b) (hp : w.heap.size ≤ p) (j : Nat) (v : Value) : Near w (w1.setCell ⟨p, j, none⟩ v) g b :=
  ⟨h.os, h.tape, h.output, by simpa [World.setCell] using h.size, fun i hi h1 h2 => (Below.heap_setCell w1 ⟨p, j, none⟩ v i (by simp; omega)).trans (h.block i hi h1 h2)⟩
def cut (M : List (Int × S29)) (id : Int) : List (Int × S29) := M.filter fun p => decide (p.1 ≠ id)
theorem NetAt.cut {w : World} {g b : Nat} {room last : Int} {M : List (Int × S29)} (h : NetAt w g b room last M) {id : Int} (hid : kGood id) (u : TypeId) :
    ∃ w1, (Builtin.delete_ #[63, 3] u #[.map (some b), .int .i64 id]).run Try.prog w = .ok (.tuple #[]) w1 ∧ NetAt w1 g b room last (P.cut M id) ∧ Near w w1 g b := by
  obtain ⟨es, clock, hm, he⟩ := h.map
  obtain ⟨es', h1, h2⟩ := delete_ok he kOk Try.underlying63 hm hid u 3
  exact ⟨_, h1, ⟨(Emap.put_other (fun e => h.ne e.symm) _).trans h.box, es', clock, Emap.put_same h.lt.2 _, h2⟩, Near.grown (put_grown _ _ _)⟩
set_option maxHeartbeats 1000000 in
set_option maxRecDepth 100000 in
theorem take_some (g b : Nat) (room last : Int) (M : List (Int × S29)) (id : Int) (hid : kGood id) (x : S29) (w : World) (hn : NetAt w g b room last M) (hx : (id, x) ∈ M) :
    Calls Try.prog 12 #[.pointer (some ⟨g, 0, none⟩), .int .i64 id] w fun e w' => e = .returned (.tuple #[gV x, .int .i64 0]) ∧ NetAt w' g b room last (cut M id) ∧ Near w w' g b := by
  obtain ⟨W, hW⟩ : ∃ W, W = w.alloc (.cells #[.int .i64 0, .int .i64 0, .string ⟨#[]⟩] 29) := ⟨_, rfl⟩
  have hb1 : Below w.heap.size w W := by rw [hW]; exact below_alloc (Below.refl w.heap.size w) _
  have hN := hn.later hb1
  have hx4 : W.heap[w.heap.size]? = some (.cells #[.int .i64 0, .int .i64 0, .string ⟨#[]⟩] 29 (0, 0)) := by rw [hW]; exact heap_alloc_new _ _
  have HF := Aside0.mk (find_some g b room last M id hid x W hN hx)
  rw [show gV x = .agg #[.int .i64 x.f0, .int .i64 x.f1, .string x.f2] from rfl] at HF
  obtain ⟨g4, hg4⟩ : ∃ g4, g4 = w.heap.size := ⟨_, rfl⟩
  rw [← hg4] at hx4
  have HX4 := Aside0.mk hx4
  have HB := Aside0.mk hb1
  have HN := Aside0.mk hN
  have hgl : g4 < W.heap.size := (Array.getElem?_eq_some_iff.1 hx4).1
  have hne : g ≠ g4 ∧ b ≠ g4 := by have := hn.lt; omega
  have HNE := Aside0.mk hne
  have HID := Aside0.mk hid
  clear hn hN hb1 hx hx4 hne hid
  go_enter Try.func12, Try.ntmps12
  go_upto_region 1 with (fail)
  rw [← hg4, ← hW]
  have HG4 : Aside0 (w.heap.size ≤ g4) := ⟨by rw [hg4]; exact Nat.le_refl _⟩
  clear hg4 hW
  go_wp2_with fail
  refine HF.out.mono ?_
  rintro e w1 ⟨rfl, hb1⟩
  obtain ⟨W2, hW2⟩ : ∃ W2, W2 = w1.alloc (.cells #[.int .i64 x.f0, .int .i64 x.f1, .string x.f2] 29) := ⟨_, rfl⟩
  have hb2 : Below W.heap.size W W2 := by rw [hW2]; exact below_alloc hb1 _
  have hN2 := HN.out.later hb2
  obtain ⟨w3, hrun, hN3, hNear⟩ := hN2.cut HID.out 0
  obtain ⟨c0, c1, c2, cf⟩ := cell3n hN2.box
  have hx6 : W2.heap[w1.heap.size]? = some (.cells #[.int .i64 x.f0, .int .i64 x.f1, .string x.f2] 29 (0, 0)) := by rw [hW2]; exact heap_alloc_new _ _
  have hx4' : W2.heap[g4]? = some (.cells #[.int .i64 0, .int .i64 0, .string ⟨#[]⟩] 29 (0, 0)) := (hb2.block g4 hgl).trans HX4.out
  obtain ⟨g6, hg6⟩ : ∃ g6, g6 = w1.heap.size := ⟨_, rfl⟩
  have h46 : g4 < g6 := by rw [hg6]; exact Nat.lt_of_lt_of_le hgl hb1.size
  rw [← hg6] at hx6
  have hl2 := hN2.lt
  have hx6' : w3.heap[g6]? = some (.cells #[.int .i64 x.f0, .int .i64 x.f1, .string x.f2] 29 (0, 0)) := (hNear.block g6 (Array.getElem?_eq_some_iff.1 hx6).1 (by have := HN.out.lt; have := hb1.size; omega) (by have := HN.out.lt; have := hb1.size; omega)).trans hx6
  have hx4'' : w3.heap[g4]? = some (.cells #[.int .i64 0, .int .i64 0, .string ⟨#[]⟩] 29 (0, 0)) := (hNear.block g4 (Array.getElem?_eq_some_iff.1 hx4').1 (fun e => HNE.out.1 e.symm) (fun e => HNE.out.2 e.symm)).trans hx4'
  have HX6 := Aside0.mk hx4''
  obtain ⟨y0, y1, y2, yf⟩ := cell3n hx6'
  obtain ⟨z0, z1, z2, zf⟩ := cell3n hx4''
  have HFIN : Aside0 (NetAt w3 g b room last (cut M id) ∧ Near w w3 g b) := ⟨hN3, ((Near.of HB.out).trans (Near.of hb2)).trans hNear⟩
  have hne46 : ¬ g6 = g4 := by omega
  have hne64 : ¬ g4 = g6 := by omega
  clear hb1 hb2 hN2 hN3 hNear hx6 hx4' hx6' hx4'' hl2 HF
  go_upto_region 2 with (fail)
  rw [← hg6, ← hW2]
  clear hg6 hW2
  go_wp2_with fail
  exact bodyPost_ret (v := .tuple #[gV x, .int .i64 0]) (results_cell_tmp rfl _ _ g4 29 #[.int .i64 x.f0, .int .i64 x.f1, .string x.f2] (0, 0) _ _ rfl rfl (blk_put (blk_put (blk_put HX6.out 0 _ rfl) 1 _ rfl) 2 _ rfl) Try.underlying29 rfl size29) rfl
    ⟨rfl, ((HFIN.out.1.far HNE.out.1 HNE.out.2 0 _).far HNE.out.1 HNE.out.2 1 _).far HNE.out.1 HNE.out.2 2 _, ((HFIN.out.2.far HG4.out 0 _).far HG4.out 1 _).far HG4.out 2 _⟩
/-- Take hands an error on. -/
theorem take_err (ptr : Value) (id : Int) (er : Int) (her : er ≠ 0) (w : World)
    (HF0 : Calls Try.prog 30 #[ptr, .int .i64 id] (w.alloc (.cells #[.int .i64 0, .int .i64 0, .string ⟨#[]⟩] 29)) fun e w' => e = .returned (.tuple #[gV zG, .int .i64 er]) ∧ Below (w.alloc (.cells #[.int .i64 0, .int .i64 0, .string ⟨#[]⟩] 29)).heap.size (w.alloc (.cells #[.int .i64 0, .int .i64 0, .string ⟨#[]⟩] 29)) w') :
    Calls Try.prog 12 #[ptr, .int .i64 id] w fun e w' => e = .returned (.tuple #[gV zG, .int .i64 er]) ∧ Below w.heap.size w w' := by
  obtain ⟨W, hW⟩ : ∃ W, W = w.alloc (.cells #[.int .i64 0, .int .i64 0, .string ⟨#[]⟩] 29) := ⟨_, rfl⟩
  rw [← hW] at HF0
  have hb1 : Below w.heap.size w W := by rw [hW]; exact below_alloc (Below.refl w.heap.size w) _
  have hx4 : W.heap[w.heap.size]? = some (.cells #[.int .i64 0, .int .i64 0, .string ⟨#[]⟩] 29 (0, 0)) := by rw [hW]; exact heap_alloc_new _ _
  have HF := Aside0.mk HF0
  rw [show gV zG = .agg #[.int .i64 0, .int .i64 0, .string ⟨#[]⟩] from rfl] at HF
  obtain ⟨g4, hg4⟩ : ∃ g4, g4 = w.heap.size := ⟨_, rfl⟩
  rw [← hg4] at hx4
  have HX4 := Aside0.mk hx4
  have HB := Aside0.mk hb1
  have hgl : g4 < W.heap.size := (Array.getElem?_eq_some_iff.1 hx4).1
  have her' : (er == 0) = false := by simpa using her
  clear hb1 hx4 HF0 her
  go_enter Try.func12, Try.ntmps12
  go_upto_region 1 with (fail)
  rw [← hg4, ← hW]
  have HG4 : Aside0 (w.heap.size ≤ g4) := ⟨by rw [hg4]; exact Nat.le_refl _⟩
  clear hg4 hW
  go_wp2_with fail
  refine HF.out.mono ?_
  rintro e w1 ⟨rfl, hb1⟩
  obtain ⟨W2, hW2⟩ : ∃ W2, W2 = w1.alloc (.cells #[.int .i64 0, .int .i64 0, .string ⟨#[]⟩] 29) := ⟨_, rfl⟩
  have hb2 : Below W.heap.size W W2 := by rw [hW2]; exact below_alloc hb1 _
  have hx6 : W2.heap[w1.heap.size]? = some (.cells #[.int .i64 0, .int .i64 0, .string ⟨#[]⟩] 29 (0, 0)) := by rw [hW2]; exact heap_alloc_new _ _
  have hx4' : W2.heap[g4]? = some (.cells #[.int .i64 0, .int .i64 0, .string ⟨#[]⟩] 29 (0, 0)) := (hb2.block g4 hgl).trans HX4.out
  obtain ⟨g6, hg6⟩ : ∃ g6, g6 = w1.heap.size := ⟨_, rfl⟩
  have h46 : g4 < g6 := by rw [hg6]; exact Nat.lt_of_lt_of_le hgl hb1.size
  rw [← hg6] at hx6
  obtain ⟨y0, y1, y2, yf⟩ := cell3n hx6
  obtain ⟨z0, z1, z2, zf⟩ := cell3n hx4'
  have HX6 := Aside0.mk hx4'
  have HB2 := Aside0.mk (below_step HB.out hb2)
  have hne46 : ¬ g6 = g4 := by omega
  have hne64 : ¬ g4 = g6 := by omega
  clear hb1 hb2 hx6 hx4' HF
  go_upto_region 2 with (fail)
  rw [← hg6, ← hW2]
  clear hg6 hW2
  go_wp2_with fail
  exact bodyPost_ret (v := .tuple #[gV zG, .int .i64 er]) (results_cell_tmp rfl _ _ g4 29 #[.int .i64 0, .int .i64 0, .string ⟨#[]⟩] (0, 0) _ _ rfl rfl (blk_put (blk_put (blk_put HX6.out 0 _ rfl) 1 _ rfl) 2 _ rfl) Try.underlying29 rfl size29) rfl
    ⟨rfl, below_set (below_set (below_set HB2.out HG4.out) HG4.out) HG4.out⟩
theorem take_none (g b : Nat) (room last : Int) (M : List (Int × S29)) (id : Int) (hid : kGood id) (w : World) (hn : NetAt w g b room last M) (hx : ∀ p ∈ M, p.1 ≠ id) :
    Calls Try.prog 12 #[.pointer (some ⟨g, 0, none⟩), .int .i64 id] w fun e w' => e = .returned (.tuple #[gV zG, .int .i64 4]) ∧ Below w.heap.size w w' :=
  take_err _ id 4 (by decide) w (find_none g b room last M id hid _ (hn.later (below_alloc (Below.refl w.heap.size w) _)) hx)
end Go.Proofs.Ytomhhbjebgghnaa.P
