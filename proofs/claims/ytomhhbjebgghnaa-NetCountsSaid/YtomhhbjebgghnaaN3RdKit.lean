/- What the claim on this statement wants of the text YtomhhbjebgghnaaRdKit. Not trusted: Lean checks it. -/
import Derived.Test.YtomhhbjebgghnaaN3RowKit
import Derived.Deep.Slices
import Derived.Deep.Fields
import Derived.ChangeSame
namespace Go.Proofs.Ytomhhbjebgghnaa.Rdk
open Go.ChangeShapes Go.WideShapes Go.Deep Go.RowKit Go.Proofs.YtomhhbjebgghnaaW.PrintWords
/-- What reads as data of type t is of this kind. -/
def Rds {α : Type} (P : Program) (t : TypeId) (d : Kd α) (Q : α → Prop) : Prop :=
  P.cellsOf t = d.sz ∧ ∀ (H : Type) (enc : TypeId × Value → H) (w : World) (held : Bool) (fuel : Nat) (cs : List Value) (x : DataW H × List MemPlace), DataW.trod enc P w 0 (fun _ => true) held fuel t cs = some x → ∃ a, d.K w a cs ∧ Q a
/-- The same of fields, one behind the other. -/
def RdsL {α : Type} (P : Program) (off : Nat) (fs : List Field) (d : Kd α) (Q : α → Prop) : Prop :=
  ∀ (H : Type) (enc : TypeId × Value → H) (w : World) (held : Bool) (n : Nat) (cs : List Value), (∀ (i : Nat) (f : Field), fs[i]? = some f → ∃ y, DataW.trod enc P w 0 (fun _ => true) held n f.type ((cs.drop f.offset).take (P.cellsOf f.type)) = some y) →
    ∃ a, d.K w a ((cs.drop off).take d.sz) ∧ Q a
variable {P : Program} {α β : Type}
theorem rds_int {t : TypeId} {k : IntKind} (ht : P.underlying t = some (.int k)) (hc : P.cellsOf t = 1) : Rds P t (Kd.int k) (fun n => (Lit.int k n).wf = true) :=
  ⟨hc, fun H enc w held fuel cs x h => by
    obtain ⟨n, rfl, _, hw⟩ := DataW.trod_int ht h
    exact ⟨n, rfl, hw⟩⟩
theorem rds_string {t : TypeId} (ht : P.underlying t = some .string) (hc : P.cellsOf t = 1) : Rds P t Kd.string (fun s => s.size ≤ maxLen) :=
  ⟨hc, fun H enc w held fuel cs x h => by
    obtain ⟨n, rfl, _, hs⟩ := DataW.trod_string ht h
    exact ⟨n, rfl, hs⟩⟩
theorem rdsL_one {off : Nat} {f : Field} {d : Kd α} {Q : α → Prop} (h : Rds P f.type d Q) (ho : f.offset = off) : RdsL P off [f] d Q := fun H enc w held n cs hf => by
  obtain ⟨y, hy⟩ := hf 0 f rfl
  rw [ho, h.1] at hy
  exact h.2 H enc w held n _ y hy
theorem rdsL_cons {off : Nat} {f : Field} {fs : List Field} {d : Kd α} {Q : α → Prop} {d2 : Kd β} {Q2 : β → Prop} (h : Rds P f.type d Q) (ho : f.offset = off) (h2 : RdsL P (off + d.sz) fs d2 Q2) :
    RdsL P off (f :: fs) (Kd.pair d d2) (fun x => Q x.1 ∧ Q2 x.2) := fun H enc w held n cs hf => by
  obtain ⟨y, hy⟩ := hf 0 f rfl
  rw [ho, h.1] at hy
  obtain ⟨a, ha, qa⟩ := h.2 H enc w held n _ y hy
  obtain ⟨b, hb, qb⟩ := h2 H enc w held n cs (fun i g hg => hf (i + 1) g (by simpa using hg))
  refine ⟨(a, b), ⟨_, _, ?_, ha, hb⟩, qa, qb⟩
  show (cs.drop off).take (d.sz + d2.sz) = _
  rw [List.take_add, List.drop_drop]
theorem rds_struct {t : TypeId} {fs : List Field} {d : Kd α} {Q : α → Prop} (ht : P.underlying t = some (.struct fs.toArray)) (hl : RdsL P 0 fs d Q) (hc : P.cellsOf t = d.sz) : Rds P t d Q :=
  ⟨hc, fun H enc w held fuel cs x h => by
    obtain ⟨ys, n, _, _, hlen, hyl, hf⟩ := DataW.trod_struct ht h
    obtain ⟨a, ha, qa⟩ := hl H enc w held n cs (fun i f hi => by
      have h1 := hf i f (by simpa using hi)
      have hi2 : i < ys.length := by
        rw [hyl]
        have := (List.getElem?_eq_some_iff.1 hi).1
        simpa using this
      exact ⟨ys[i], by rw [h1, List.getElem?_eq_getElem hi2]⟩)
    refine ⟨a, ?_, qa⟩
    rw [List.drop_zero, List.take_of_length_le (by omega)] at ha
    exact ha⟩
theorem rds_iso {t : TypeId} {d : Kd α} {Q : α → Prop} (f : β → α) (g : α → β) (hfg : ∀ a, f (g a) = a) (h : Rds P t d Q) : Rds P t (Kd.iso d f) (fun b => Q (f b)) :=
  ⟨h.1, fun H enc w held fuel cs x ht => by
    obtain ⟨a, ha, qa⟩ := h.2 H enc w held fuel cs x ht
    exact ⟨g a, by show d.K w (f (g a)) cs; rw [hfg]; exact ha, by show Q (f (g a)); rw [hfg]; exact qa⟩⟩
/-- A slice that reads as data. -/
theorem rds_top {H : Type} {enc : TypeId × Value → H} {w : World} {held : Bool} {t e : TypeId} {fuel : Nat} {a : Option Addr} {len cap : Nat} {x : DataW H × List MemPlace} {d : Kd α} {Q : α → Prop}
    (ht : P.underlying t = some (.slice e)) (he : Rds P e d Q) (h : DataW.trod enc P w 0 (fun _ => true) held fuel t [.slice a len cap] = some x) :
    ∃ l : List α, len = l.length ∧ d.C w a l.length l ∧ l.length ≤ cap ∧ ∀ x ∈ l, Q x := by
  rcases open_slice ht h with ⟨hcs, _⟩ | ⟨ad, len', cap', m, n, D, Pl, hcs, hb, hl, hm, hmm, hx, hi⟩
  · simp at hcs
    obtain ⟨rfl, rfl, rfl⟩ := hcs
    exact ⟨[], rfl, ⟨rfl, by simp, fun h => absurd h (Nat.lt_irrefl 0)⟩, Nat.zero_le _, fun _ h => by cases h⟩
  · simp at hcs
    obtain ⟨rfl, rfl, rfl⟩ := hcs
    simp only [if_true] at hmm
    subst hmm
    have hex : ∀ i : Fin len, ∃ p : α, Q p ∧ ∃ c, c.length = d.sz ∧ d.K w p c ∧ ∀ j u, c[j]? = some u → w.cell? (ad.add (i.1 * d.sz + j)) = some u := fun i => by
      obtain ⟨cs', hc, htr⟩ := hi i.1 (by have := i.2; omega)
      obtain ⟨p, hp, qp⟩ := he.2 H enc w held n cs' _ htr
      obtain ⟨_, hcl, hat⟩ := World.cells?_some hc
      rw [he.1] at hcl hat
      refine ⟨p, qp, cs', hcl, hp, fun j u hu => ?_⟩
      have hj : j < d.sz := by rw [← hcl]; exact (List.getElem?_eq_some_iff.1 hu).1
      rw [← Go.Deep.add_add, hat j hj, hu]
    refine ⟨List.ofFn fun i => (hex i).choose, by rw [List.length_ofFn], ⟨rfl, by rw [List.length_ofFn]; unfold maxLen at hm; omega, fun _ => ⟨ad, rfl, fun j p hj => ?_⟩⟩, by rw [List.length_ofFn]; exact hl, fun y hy => ?_⟩
    · obtain ⟨hj1, hj2⟩ := List.getElem?_eq_some_iff.1 hj
      rw [List.length_ofFn] at hj1
      rw [List.getElem_ofFn] at hj2
      subst hj2
      exact (hex ⟨j, hj1⟩).choose_spec.2
    · obtain ⟨i, rfl⟩ := List.mem_ofFn.1 hy
      exact (hex i).choose_spec.1
end Go.Proofs.Ytomhhbjebgghnaa.Rdk
