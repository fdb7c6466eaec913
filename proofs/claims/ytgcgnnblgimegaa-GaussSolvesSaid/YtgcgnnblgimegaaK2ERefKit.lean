/- What the claim on this statement wants of the text YtgcgnnblgimegaaERefKit. Not trusted: Lean checks it. -/
import Derived.Test.YtgcgnnblgimegaaK2EWalkTrue
namespace Go.Proofs.Ytgcgnnblgimegaa.P
open Go.RowKit Go.Proofs.YtgcgnnblgimegaaW.PrintWords Go.Proofs.YtgcgnnblgimegaaW.PrintLast Go.Proofs.YtgcgnnblgimegaaW.PrintMore
open Go.Proofs.Ytgcgnnblgimegaa.Red
set_option linter.unusedVariables false
set_option linter.unusedSimpArgs false
/-- A block that came in, or one of numbers. -/
def Safe (B : Nat) (w : World) (k : Nat) : Prop := k < w.heap.size ∧ (k < B ∨ ∃ cells, w.heap[k]? = some (.cells cells 3 (0, 0)))
def K3 (B : Nat) (w w' : World) : Prop := w.heap.size ≤ w'.heap.size ∧ ∀ k, Safe B w k → w'.heap[k]? = w.heap[k]?
theorem Safe.keep {B : Nat} {w w' : World} {k : Nat} (h : Safe B w k) (hk : K3 B w w') : Safe B w' k :=
  ⟨Nat.lt_of_lt_of_le h.1 hk.1, h.2.imp id fun ⟨cells, hc⟩ => ⟨cells, (hk.2 k h).trans hc⟩⟩
theorem K3.refl (B : Nat) (w : World) : K3 B w w := ⟨Nat.le_refl _, fun _ _ => rfl⟩
theorem K3.trans {B : Nat} {w w1 w2 : World} (h : K3 B w w1) (k : K3 B w1 w2) : K3 B w w2 :=
  ⟨Nat.le_trans h.1 k.1, fun j hj => (k.2 j (hj.keep h)).trans (h.2 j hj)⟩
theorem K3.below {B : Nat} {w w' : World} (h : Below w.heap.size w w') : K3 B w w' := ⟨h.size, fun k hk => h.block k hk.1⟩
theorem not_safe {B : Nat} {w : World} {g t : Nat} {cells : Array Value} (hb : w.heap[g]? = some (.cells cells t (0, 0))) (ht : t ≠ 3) (hB : B ≤ g) : ¬ Safe B w g := by
  rintro ⟨_, h | ⟨cells', hc⟩⟩
  · omega
  · rw [hb] at hc
    injection hc with hc
    injection hc with _ h2 _
    exact ht h2
theorem K3.grown {B : Nat} {w w' : World} {g t : Nat} {cells : Array Value} (hg : w.grownBy w' (some g)) (hb : w.heap[g]? = some (.cells cells t (0, 0))) (ht : t ≠ 3) (hB : B ≤ g) : K3 B w w' :=
  ⟨hg.size, fun k hk => hg.block k hk.1 (fun e => by cases e; exact not_safe hb ht hB hk)⟩
theorem K3.set {B : Nat} {w : World} {g t : Nat} {cells : Array Value} (hb : w.heap[g]? = some (.cells cells t (0, 0))) (ht : t ≠ 3) (hB : B ≤ g) (j : Nat) (u : Value) : K3 B w (w.setCell ⟨g, j, none⟩ u) :=
  ⟨by simp [World.setCell], fun k hk => Below.heap_setCell w ⟨g, j, none⟩ u k (fun e => by subst e; exact not_safe hb ht hB hk)⟩
/-- A row of numbers that is read, in a block that nobody writes. -/
structure RowOk (B : Nat) (w : World) (t : Eq4) : Prop where
  len : t.l.length ≤ t.c
  rd : Kd.C (Kd.int .i64) w t.A t.l.length t.l
  safe : ∀ ad, t.A = some ad → 0 < t.l.length → Safe B w ad.block
theorem cell_kept {w w' : World} {a : Addr} (h : w'.heap[a.block]? = w.heap[a.block]?) : w'.cell? a = w.cell? a := by
  unfold World.cell?
  rw [h]
theorem RowOk.keep {B : Nat} {w w' : World} {t : Eq4} (h : RowOk B w t) (hk : K3 B w w') : RowOk B w' t := by
  refine ⟨h.len, ?_, fun ad e hp => (h.safe ad e hp).keep hk⟩
  obtain ⟨h1, h2, h3⟩ := h.rd
  refine ⟨h1, h2, fun hp => ?_⟩
  obtain ⟨ad, e, hc⟩ := h3 hp
  refine ⟨ad, e, fun j p hj => ?_⟩
  obtain ⟨c, hl, hK, hcc⟩ := hc j p hj
  have hb : ∀ i, w'.cell? (ad.add i) = w.cell? (ad.add i) := fun i => cell_kept (by rw [add_block]; exact hk.2 _ (h.safe ad e hp))
  exact ⟨c, hl, hK, fun i u hu => (hb _).trans (hcc i u hu)⟩
theorem RowOk.own {B base : Nat} {ok : Nat → Prop} {w : World} {A : Option Addr} {c : Nat} {l : List Int} (b : ByteArray) (h : Kd.R (Kd.int .i64) 3 w base ok (.slice A l.length c) l) : RowOk B w ⟨A, c, l, b⟩ := by
  obtain ⟨hn, hc, hC⟩ := Kd.R_reads' h
  refine ⟨hc, hC, fun ad e hp => ?_⟩
  cases e
  obtain ⟨g, e⟩ := Kd.R_head h
  subst e
  obtain ⟨g', cap, e, hb, hlt, cells, hcc⟩ := Kd.R_form h hp
  cases e
  exact ⟨hlt, .inr ⟨cells, hcc⟩⟩
theorem RowOk.came {w W : World} {t : Eq4} (hl : t.l.length ≤ t.c) (h : Kd.C (Kd.int .i64) w t.A t.l.length t.l) : RowOk w.heap.size w t := by
  refine ⟨hl, h, fun ad e hp => ?_⟩
  obtain ⟨ad', e', hx⟩ := Kd.at_int h (0 : Int) (by omega) (by omega)
  rw [e] at e'
  cases e'
  have := World.block_lt_of_cell? w _ hx
  rw [add_block] at this
  exact ⟨this, .inl this⟩
end Go.Proofs.Ytgcgnnblgimegaa.P
