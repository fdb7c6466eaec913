/- What the claim on this statement wants of the text YtgcgnnblgimegaaESide. Not trusted: Lean checks it. -/
import Derived.Test.YtgcgnnblgimegaaK2EList
import Derived.Test.YtgcgnnblgimegaaK2EXor
namespace Go.Proofs.Ytgcgnnblgimegaa.P
open Go.RowKit Go.Proofs.YtgcgnnblgimegaaW.PrintWords Go.Proofs.YtgcgnnblgimegaaW.PrintLast Go.Proofs.YtgcgnnblgimegaaW.PrintMore
open Go.Proofs.Ytgcgnnblgimegaa.Red
set_option linter.unusedVariables false
set_option linter.unusedSimpArgs false
def sdV (s : Sd) : Value := .agg #[.int .u64 (wd s.x 0), .int .u64 (wd s.x 1), .int .u64 (wd s.x 2), .string s.b]
theorem cell4 {w : World} {g : Nat} {a b c d : Value} {t : TypeId} (h : w.heap[g]? = some (.cells #[a, b, c, d] t (0, 0))) :
    w.cell? ⟨g, 0, none⟩ = some a ∧ w.cell? ⟨g, 1, none⟩ = some b ∧ w.cell? ⟨g, 2, none⟩ = some c ∧ w.cell? ⟨g, 3, none⟩ = some d ∧ ∀ j, w.frozen? ⟨g, j, none⟩ = false :=
  ⟨by simp [World.cell?, h], by simp [World.cell?, h], by simp [World.cell?, h], by simp [World.cell?, h], fun j => frozen_of_row w g _ _ _ h⟩
theorem keep3 {w W : World} {X Y Z : Obj} (h : Below (((w.alloc X).alloc Y).alloc Z).heap.size (((w.alloc X).alloc Y).alloc Z) W) :
    W.heap[w.heap.size]? = some X ∧ W.heap[w.heap.size + 1]? = some Y ∧ W.heap[w.heap.size + 1 + 1]? = some Z ∧ Below w.heap.size w W ∧ w.heap.size + 3 ≤ W.heap.size := by
  have e1 : (w.alloc X).heap.size = w.heap.size + 1 := by show (w.heap.push X).size = _; simp
  have e2 : ((w.alloc X).alloc Y).heap.size = w.heap.size + 2 := by show ((w.alloc X).heap.push Y).size = _; simp [e1]
  have e3 : (((w.alloc X).alloc Y).alloc Z).heap.size = w.heap.size + 3 := by show (((w.alloc X).alloc Y).heap.push Z).size = _; simp [e2]
  obtain ⟨n1, n2, n3⟩ := new3 w X Y Z
  refine ⟨(h.block _ (by omega)).trans n1, (h.block _ (by omega)).trans n2, (h.block _ (by omega)).trans n3, ?_, by have := h.size; omega⟩
  exact below_step (below_alloc (below_alloc (below_alloc (Below.refl w.heap.size w) X) Y) Z) h
set_option maxHeartbeats 1000000 in
set_option maxRecDepth 100000 in
theorem plus_calls (s t : Sd) (hs : s.b.size ≤ 9223372036854775807) (w : World) :
    Calls Try.prog 79 #[sdV s, sdV t] w fun e w' => e = .returned (sdV (s.plus t)) ∧ Below w.heap.size w w' := by
  obtain ⟨r2, hr⟩ : ∃ r2, block_Xor.f s.b t.b = some (xorB s.b t.b, r2) := by
    unfold block_Xor.f
    rw [if_pos hs]
    by_cases h : s.b.size = t.b.size
    · exact ⟨0, by rw [if_pos h]⟩
    · exact ⟨1, by rw [if_neg h]; unfold xorB; rw [if_neg h]⟩
  have HX := Aside0.mk (fun w => block_Xor.calls s.b t.b _ r2 w hr)
  have HA := Aside0.mk (add_calls s.x t.x)
  unfold sdV Sd.plus
  unfold rowV at HA
  dsimp only
  obtain ⟨sx, sb⟩ := s
  obtain ⟨tx, tb⟩ := t
  dsimp only at *
  obtain ⟨xb, hxb⟩ : ∃ z, z = xorB sb tb := ⟨_, rfl⟩
  rw [← hxb] at HX ⊢
  generalize wd sx 0 = x0 at *
  generalize wd sx 1 = x1 at *
  generalize wd sx 2 = x2 at *
  generalize wd tx 0 = y0 at *
  generalize wd tx 1 = y1 at *
  generalize wd tx 2 = y2 at *
  generalize wd (sx ^^^ tx) 0 = z0 at *
  generalize wd (sx ^^^ tx) 1 = z1 at *
  generalize wd (sx ^^^ tx) 2 = z2 at *
  clear hr hxb hs
  go_enter Try.func79, Try.ntmps79
  go_wp2_with fail
  refine (HX.out _).mono ?_
  rintro e w1 ⟨rfl, hb1⟩
  obtain ⟨b0, b1, b2, hB, hz⟩ := keep3 hb1
  obtain ⟨c0, c1, c2, c3, -⟩ := cell4 b0
  obtain ⟨d0, d1, d2, d3, -⟩ := cell4 b1
  have B2 := Aside0.mk b2
  have HB := Aside0.mk hB
  have HZ := Aside0.mk hz
  clear b0 b1 b2 hB hb1 HX hz
  go_wp2_with fail
  refine (HA.out _).mono ?_
  rintro e w2 ⟨rfl, hb2⟩
  have b2 := (hb2.block (w.heap.size + 1 + 1) (by have := HZ.out; omega)).trans B2.out
  obtain ⟨e0, e1, e2, e3, ef⟩ := cell4 b2
  have B2' := Aside0.mk b2
  have HB' := Aside0.mk (below_step HB.out hb2)
  clear c0 c1 c2 c3 d0 d1 d2 d3 b2 hb2 B2 HB HA
  go_wp2_with fail
  exact bodyPost_ret (v := .agg #[.int .u64 z0, .int .u64 z1, .int .u64 z2, .string xb]) (results_cell_row rfl _ _ (w.heap.size + 1 + 1) 74 #[.int .u64 z0, .int .u64 z1, .int .u64 z2, .string xb] (0, 0) _ rfl (blk_put (blk_put (blk_put (blk_put B2'.out 0 _ rfl) 1 _ rfl) 2 _ rfl) 3 _ rfl) Try.underlying74 rfl size74) rfl
    ⟨rfl, below_set (below_set (below_set (below_set HB'.out (by omega)) (by omega)) (by omega)) (by omega)⟩
end Go.Proofs.Ytgcgnnblgimegaa.P
