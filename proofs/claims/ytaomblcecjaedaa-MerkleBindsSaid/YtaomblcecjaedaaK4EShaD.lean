/- What the claim on this statement wants of the text YtaomblcecjaedaaEShaD. Not trusted: Lean checks it. -/
import Derived.Test.YtaomblcecjaedaaK4EShaC
import Derived.Test.YtaomblcecjaedaaK4EScope
import Derived.Deep.MidRow
namespace Go.Proofs.Ytaomblcecjaedaa.P
open Go.RowKit Go.Proofs.YtaomblcecjaedaaW.PrintWords Go.Proofs.YtaomblcecjaedaaW.PrintLast Go.Proofs.YtaomblcecjaedaaW.PrintMore
attribute [local go_sem] max2_int min2_int max_two min_two max_three min_three max_four min_four
set_option linter.unusedVariables false
set_option linter.unusedSimpArgs false
/-- A block of 64 bytes mixed into a state. -/
def mixL (s l : List Int) : List Int := addN s (mixN (sched l 64) K64 s 64) 8
theorem mixN_len (ws ks s : List Int) (hs : s.length = 8) (k : Nat) : (mixN ws ks s k).length = 8 := by
  cases k with
  | zero => exact hs
  | succ k => rfl
theorem mixL_len (s l : List Int) (hs : s.length = 8) : (mixL s l).length = 8 := by
  unfold mixL
  rw [addN_len]
  exact mixN_len _ _ _ hs _
theorem mix_calls (s : List Int) (hs : s.length = 8) (A0 : Option Addr) (c0 : Nat) (l : List Int) (w : World) (hr0 : Kd.C (Kd.int .u8) w A0 l.length l) (hc0 : l.length ≤ c0) (hl : 64 ≤ l.length) :
    Calls Try.prog 57 #[.agg (U s), .slice A0 l.length c0] w fun e w' => e = .returned (.agg (U (mixL s l))) ∧ Below w.heap.size w w' :=
  mix_core s (sched l 64) K64 hs (sched_len _ _) K64_len A0 l.length c0 w
    ⟨fun W hb => schedule_calls A0 c0 l W (Kd.C_below hr0 hb) hc0 hl⟩ ⟨fun W => constants_calls W⟩
def S8 : List Int := [1779033703, 3144134277, 1013904242, 2773480762, 1359893119, 2600822924, 528734635, 1541459225]
/-- A Hash's cells. -/
def Hc (st : List Int) (v : Value) (n : Int) : Array Value := U st ++ #[v, .int .i64 n]
set_option maxHeartbeats 1000000 in
set_option maxRecDepth 100000 in
theorem start_calls (w : World) : Calls Try.prog 56 #[] w fun e w' => e = .returned (.agg (U S8)) ∧ Below w.heap.size w w' := by
  go_enter Try.func56, Try.ntmps56
  go_wp2_with (refine wpList_store_rowA rfl 81 (.tmp 0) (.tmp 1) rfl w.heap.size (U S8) rfl rfl 81 _ (heap_alloc_new _ _) size81 rfl (U_ones _) ?_; intro W3 F3)
  exact bodyPost_ret (v := .agg (U S8)) (results_cell_row rfl _ _ w.heap.size 81 _ (0, 0) _ rfl F3.at_ Try.underlying81 rfl size81) rfl ⟨rfl, F3.below (below_alloc (Below.refl _ _) _) (Nat.le_refl _)⟩
set_option maxHeartbeats 1000000 in
set_option maxRecDepth 100000 in
theorem new_calls (w : World) : Calls Try.prog 48 #[] w fun e w' => ∃ g, e = .returned (.pointer (some ⟨g, 0, none⟩)) ∧ w.heap.size ≤ g ∧ w'.heap[g]? = some (.cells (Hc S8 (.slice none 0 0) 0) 84 (0, 0)) ∧ Below w.heap.size w w' := by
  go_enter Try.func48, Try.ntmps48
  go_wp2_with fail
  refine (start_calls _).mono ?_
  rintro e w1 ⟨rfl, hb⟩
  have HB := Aside0.mk hb
  clear hb
  go_wp2_with fail
  have hz : (Array.foldl (fun cs x => cs.setIfInBounds x.snd x.fst)
              #[Value.int IntKind.u32 0, Value.int IntKind.u32 0, Value.int IntKind.u32 0, Value.int IntKind.u32 0,
                Value.int IntKind.u32 0, Value.int IntKind.u32 0, Value.int IntKind.u32 0, Value.int IntKind.u32 0,
                Value.slice none 0 0, Value.int IntKind.i64 0]
              (U S8).zipIdx 0 (U S8).size) = Hc S8 (.slice none 0 0) 0 := by kernel_rfl
  rw [hz]
  go_ret
  exact ⟨_, rfl, HB.out.size, heap_alloc_new _ _, below_alloc HB.out _⟩
/-- What is known of a Hash under way: w is the world in which the sum began. -/
structure HW (w W : World) (g : Nat) (st : List Int) (n : Int) (v : Value) (xs : List Int) : Prop where
  hg : W.heap[g]? = some (.cells (Hc st v n) 84 (0, 0))
  st8 : st.length = 8
  own : W.ownsRow w.heap.size 5 1 v xs.length (nums .u8 xs)
  hb : Below w.heap.size w W
  ge : w.heap.size ≤ g
theorem HW.cell8 {w W : World} {g : Nat} {st : List Int} {n : Int} {v : Value} {xs : List Int} (h : HW w W g st n v xs) : W.cell? ⟨g, 8, none⟩ = some v := by
  rw [cell_of_row W g 8 _ 84 _ h.hg]
  have := h.st8
  simp [Hc, U, Array.getElem?_append, this]
theorem HW.cell9 {w W : World} {g : Nat} {st : List Int} {n : Int} {v : Value} {xs : List Int} (h : HW w W g st n v xs) : W.cell? ⟨g, 9, none⟩ = some (.int .i64 n) := by
  rw [cell_of_row W g 9 _ 84 _ h.hg]
  have := h.st8
  simp [Hc, U, Array.getElem?_append, this]
theorem HW.range {w W : World} {g : Nat} {st : List Int} {n : Int} {v : Value} {xs : List Int} (h : HW w W g st n v xs) : W.rangeAt g 0 (st.map (Value.int .u32)) := by
  intro j u hu
  rw [cell_of_row W g (0 + j) _ 84 _ h.hg]
  have hj : j < (st.map (Value.int .u32)).length := (List.getElem?_eq_some_iff.1 hu).1
  simp only [List.length_map] at hj
  simp only [Hc, U, Array.getElem?_append, List.size_toArray, List.length_map, Nat.zero_add, hj, if_true, List.getElem?_toArray]
  exact hu
theorem own_far5 {W : World} {B g : Nat} {v : Value} {n : Nat} {xs : List Value} {cs : Array Value} {t : TypeId} (h : W.ownsRow B 5 1 v n xs) (hg : W.heap[g]? = some (.cells cs t (0, 0))) (ht : t ≠ 5) : v.ownBlock ≠ some g := by
  rcases h.2 with ⟨rfl, _⟩ | ⟨k, cap, cur, rfl, _, hk, _⟩
  · simp [Value.ownBlock]
  · intro he
    have : k = g := by simpa [Value.ownBlock] using he
    subst this
    rw [hk] at hg
    injection hg with hg
    injection hg with _ hg _
    exact ht hg.symm
theorem HW.drewN {w W : World} {g : Nat} {st : List Int} {n : Int} {v : Value} {xs : List Int} (h : HW w W g st n v xs) (m : Nat) : HW w (W.drewN m) g st n v xs :=
  ⟨h.hg, h.st8, h.own, pw_below_drewN h.hb m, h.ge⟩
theorem HW.later {w W W1 : World} {g : Nat} {st : List Int} {n : Int} {v : Value} {xs : List Int} (h : HW w W g st n v xs) (hb : Below W.heap.size W W1) : HW w W1 g st n v xs := by
  refine ⟨?_, h.st8, ?_, below_step h.hb hb, h.ge⟩
  · rw [hb.block g (Array.getElem?_eq_some_iff.1 h.hg).1]; exact h.hg
  · exact h.own.kept (grown_of_below hb none) (by cases h' : v.ownBlock <;> simp)
/-- The number is written. -/
theorem HW.setN {w W : World} {g : Nat} {st : List Int} {n : Int} {v : Value} {xs : List Int} (h : HW w W g st n v xs) (m : Int) : HW w (W.setCell ⟨g, 9, none⟩ (.int .i64 m)) g st m v xs := by
  refine ⟨?_, h.st8, ownsRow_setCell_other h.own (own_far5 h.own h.hg (by decide)) _, below_set h.hb h.ge, h.ge⟩
  rw [heap_setCell_same _ _ _ _ _ _ h.hg]
  have := h.st8
  simp [Hc, U, Array.setIfInBounds_append, this]
/-- The part is written: a row of the sum's own. -/
theorem HW.setV {w W W1 : World} {g : Nat} {st : List Int} {n : Int} {v v1 : Value} {xs ys : List Int} (h : HW w W g st n v xs) (hg1 : W1.heap[g]? = W.heap[g]?) (hb : Below w.heap.size w W1) (ho : W1.ownsRow w.heap.size 5 1 v1 ys.length (nums .u8 ys)) :
    HW w (W1.setCell ⟨g, 8, none⟩ v1) g st n v1 ys := by
  have hg2 := hg1.trans h.hg
  refine ⟨?_, h.st8, ownsRow_setCell_other ho (own_far5 ho hg2 (by decide)) _, below_set hb h.ge, h.ge⟩
  rw [heap_setCell_same _ _ _ _ _ _ hg2]
  have := h.st8
  simp [Hc, U, Array.setIfInBounds_append, this]
def setFrom (cs : Array Value) : Nat → List Value → Array Value
  | _, [] => cs
  | o, v :: r => setFrom (cs.setIfInBounds o v) (o + 1) r
theorem setCells_heap (g t : Nat) (vs : List Value) : ∀ (o : Nat) (W : World) (cs : Array Value), W.heap[g]? = some (.cells cs t (0, 0)) → (W.setCells g o vs).heap[g]? = some (.cells (setFrom cs o vs) t (0, 0)) := by
  induction vs with
  | nil => intro o W cs h; exact h
  | cons v r ih => intro o W cs h; exact ih (o + 1) _ _ (heap_setCell_same _ _ _ _ _ _ h)
theorem setCells_below {w : World} (g : Nat) (hg : w.heap.size ≤ g) (vs : List Value) : ∀ (o : Nat) (W : World), Below w.heap.size w W → Below w.heap.size w (W.setCells g o vs) := by
  induction vs with
  | nil => intro o W h; exact h
  | cons v r ih => intro o W h; exact ih (o + 1) _ (below_set h hg)
theorem setCells_own {B n : Nat} {v : Value} {xs : List Value} (g : Nat) (hne : v.ownBlock ≠ some g) (vs : List Value) : ∀ (o : Nat) (W : World), W.ownsRow B 5 1 v n xs → (W.setCells g o vs).ownsRow B 5 1 v n xs := by
  induction vs with
  | nil => intro o W h; exact h
  | cons u r ih => intro o W h; exact ih (o + 1) _ (ownsRow_setCell_other h hne _)
theorem list8 (l : List Int) (h : l.length = 8) : ∃ a b c d e f g i, l = [a, b, c, d, e, f, g, i] := by
  match l, h with
  | [a, b, c, d, e, f, g, i], _ => exact ⟨a, b, c, d, e, f, g, i, rfl⟩
theorem setFrom_state (st st' : List Int) (v : Value) (n : Int) (h : st.length = 8) (h' : st'.length = 8) : setFrom (Hc st v n) 0 (U st').toList = Hc st' v n := by
  obtain ⟨a, b, c, d, e, f, g, i, rfl⟩ := list8 st h
  obtain ⟨a', b', c', d', e', f', g', i', rfl⟩ := list8 st' h'
  simp [U, Hc, setFrom]
theorem HW.setS {w W : World} {g : Nat} {st st' : List Int} {n : Int} {v : Value} {xs : List Int} (h : HW w W g st n v xs) (h8 : st'.length = 8) : HW w (W.setCells g 0 (U st').toList) g st' n v xs := by
  refine ⟨?_, h8, setCells_own g (own_far5 h.own h.hg (by decide)) _ _ _ h.own, setCells_below g h.ge _ _ _ h.hb, h.ge⟩
  rw [setCells_heap g 84 _ _ _ _ h.hg, setFrom_state _ _ _ _ h.st8 h8]
theorem HW.froz {w W : World} {g : Nat} {st : List Int} {n : Int} {v : Value} {xs : List Int} (h : HW w W g st n v xs) (j : Nat) : W.frozen? ⟨g, j, none⟩ = false := frozen_of_row W g _ _ _ h.hg
end Go.Proofs.Ytaomblcecjaedaa.P
