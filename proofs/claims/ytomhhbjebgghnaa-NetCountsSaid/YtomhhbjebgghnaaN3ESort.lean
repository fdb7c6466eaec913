/- What the claim on this statement wants of the text YtomhhbjebgghnaaESort. Not trusted: Lean checks it. -/
import Derived.Test.YtomhhbjebgghnaaN3Shelf
import Derived.Test.YtomhhbjebgghnaaN3Px0
namespace Go.Proofs.Ytomhhbjebgghnaa.P
open Go.RowKit Go.Proofs.YtomhhbjebgghnaaW.PrintWords
open Go.Sort
def sorted (l : List Int) : List Int := l.mergeSort fun x y => decide (x ≤ y)
theorem sorted_length (l : List Int) : (sorted l).length = l.length := List.length_mergeSort l
theorem sort_calls {base : Nat} {ok : Nat → Prop} (v : Value) (l : List Int) (w : World) (h : Kd.R (Kd.int .i64) 3 w base ok v l) (hl : l.length < 4611686018427387904) :
    Calls Try.prog 35 #[v] w fun e w' => e = .returned (.tuple #[]) ∧ Kd.R (Kd.int .i64) 3 w' base ok v (sorted l) ∧ w.grownBy w' v.ownBlock := by
  have ho := Kd.own_of_R h
  rcases ho.2 with ⟨rfl, hn⟩ | ⟨g, cap, cur, rfl, hg, hb, hnc, hcm, hsz, htk⟩
  · obtain rfl : l = [] := List.length_eq_zero_iff.1 hn
    refine (Try.slices_Sort_int_none none 0 w).mono ?_
    rintro e w' ⟨rfl, rfl⟩
    exact ⟨rfl, by simpa [sorted] using h, rfl, rfl, rfl, Nat.le_refl _, fun _ _ _ => rfl⟩
  · rw [Nat.mul_one] at hsz htk
    have hgl : g < w.heap.size := (Array.getElem?_eq_some_iff.1 hb).1
    have hcell : ∀ j, j < l.length → cur[j]? = some (.int .i64 (l.getD j 0)) := fun j hj => by
      have := congrArg (·[j]?) htk
      simp only [List.getElem?_take, if_pos hj, Array.getElem?_toList, encs, List.getElem?_map] at this
      rw [this, List.getElem?_eq_getElem hj, List.getD_eq_getElem?_getD, List.getElem?_eq_getElem hj]
      rfl
    have hH : Holds (Value.int .i64) w g 0 l.toArray := fun j hj => by
      have hj' : j < l.length := by simpa using hj
      refine ⟨?_, frozen_of_row w g _ _ _ hb⟩
      simp only [World.cell?, hb, Option.isSome_none, Bool.false_eq_true, if_false, Nat.zero_add]
      rw [hcell j hj', getElem!_pos l.toArray j hj, List.getD_eq_getElem?_getD, List.getElem?_eq_getElem hj']
      simp
    refine (Try.slices_Sort_int g 0 cap l w hH hgl hl).mono ?_
    rintro e w' ⟨rfl, n, os, hw⟩
    have hsl : (sorted l).toArray.size = l.length := by rw [List.size_toArray, sorted_length]
    have hb' : w'.heap[g]? = some (.cells (putCells (Value.int .i64) 0 (sorted l).toArray cur) 3 (0, 0)) := by
      rw [hw, heap_grow_old _ _ (by rw [size_putRow]; exact hgl)]
      show (w.heap.modify g (onCells _))[g]? = _
      rw [Array.getElem?_modify, if_pos rfl, hb]
      rfl
    have hgr : w.grownBy w' (some g) := by
      refine ⟨by rw [hw]; rfl, by rw [hw]; rfl, by rw [hw]; rfl, by rw [hw, size_grow, size_putRow]; exact Nat.le_add_right _ _, fun k hk hne => ?_⟩
      rw [hw, heap_grow_old _ _ (by rw [size_putRow]; exact hk)]
      show (w.heap.modify g (onCells _))[k]? = _
      rw [Array.getElem?_modify, if_neg (fun e => hne (by rw [e]))]
    refine ⟨rfl, Kd.R_of_own ⟨by rw [encs_length]; simp, .inr ⟨g, cap, _, by rw [sorted_length], hg, hb', by rw [sorted_length]; exact hnc, hcm, ?_, ?_⟩⟩ h.1, hgr⟩
    · rw [Nat.mul_one]; simp only [putCells, Array.size_mapIdx]; exact hsz
    · rw [Nat.mul_one, sorted_length]
      apply List.ext_getElem?
      intro j
      by_cases hj : j < l.length
      · have hj2 : j < (sorted l).length := by rw [sorted_length]; exact hj
        have hjc : j < cur.size := by omega
        simp only [List.getElem?_take, if_pos hj, Array.getElem?_toList, putCells, Array.getElem?_mapIdx, encs, List.getElem?_map]
        rw [Array.getElem?_eq_getElem hjc, List.getElem?_eq_getElem hj2, Option.map_some, Option.map_some, if_pos ⟨Nat.zero_le _, by rw [hsl]; omega⟩, Nat.sub_zero, getElem!_pos (sorted l).toArray j (by rw [hsl]; exact hj)]
        simp
      · rw [List.getElem?_take, if_neg hj, List.getElem?_eq_none (by rw [encs_length, sorted_length]; omega)]
end Go.Proofs.Ytomhhbjebgghnaa.P
