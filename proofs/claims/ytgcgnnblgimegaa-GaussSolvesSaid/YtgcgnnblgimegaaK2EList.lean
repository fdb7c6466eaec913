/- What the claim on this statement wants of the text YtgcgnnblgimegaaEList. Not trusted: Lean checks it. -/
import Derived.Test.YtgcgnnblgimegaaK2ERow
namespace Go.Proofs.Ytgcgnnblgimegaa.P
open Go.RowKit Go.Proofs.YtgcgnnblgimegaaW.PrintWords Go.Proofs.YtgcgnnblgimegaaW.PrintLast Go.Proofs.YtgcgnnblgimegaaW.PrintMore
set_option linter.unusedVariables false
set_option linter.unusedSimpArgs false
def pre (x : Nat) (k : Nat) : List Int := ((List.range k).filter fun i => x.testBit i).map Int.ofNat
def lst (x : Nat) : List Int := pre x 160
theorem pre_succ (x k : Nat) : pre x (k + 1) = if x.testBit k then pre x k ++ [(k : Int)] else pre x k := by
  unfold pre
  rw [List.range_succ, List.filter_append, List.map_append]
  cases h : x.testBit k <;> simp [h]
theorem pre_len (x k : Nat) : (pre x k).length ≤ k := by
  unfold pre
  rw [List.length_map]
  exact Nat.le_trans (List.length_filter_le _ _) (by simp)
structure LsW (w W : World) (x : Nat) (v : Value) (l : List Int) : Prop where
  b0 : W.heap[w.heap.size]? = some (.cells #[.int .u64 (wd x 0), .int .u64 (wd x 1), .int .u64 (wd x 2)] 72 (0, 0))
  own : Kd.R (Kd.int .i64) 3 W w.heap.size (fun _ => True) v l
  hb : Below w.heap.size w W
theorem LsW.later {w W W1 : World} {x : Nat} {v : Value} {l : List Int} (h : LsW w W x v l) (hb : Below W.heap.size W W1) : LsW w W1 x v l :=
  ⟨(hb.block _ (Array.getElem?_eq_some_iff.1 h.b0).1).trans h.b0, Kd.R_below h.own hb, below_step h.hb hb⟩
theorem LsW.alloc {w W : World} {x : Nat} {v : Value} {l : List Int} (h : LsW w W x v l) (o : Obj) : LsW w (W.alloc o) x v l := h.later (below_alloc (Below.refl _ _) o)
theorem info3' : (Try.prog.info? 3).map (fun i => (i.zero, i.size, i.bytes)) = some (some (.int .i64 0), 1, 8) := by kernel_rfl
theorem LsW.grown {w W W1 : World} {x : Nat} {v v1 : Value} {l l1 : List Int} (h : LsW w W x v l) (hr : Kd.R (Kd.int .i64) 3 W1 w.heap.size (fun _ => True) v1 l1) (hb : Below w.heap.size w W1) (hg : W.grownBy W1 v.ownBlock) : LsW w W1 x v1 l1 :=
  ⟨(hg.block _ (Array.getElem?_eq_some_iff.1 h.b0).1 (Kd.R_ne h.own h.b0 (by decide))).trans h.b0, hr, hb⟩
set_option maxHeartbeats 1000000 in
set_option maxRecDepth 100000 in
theorem list_calls (x : Nat) (w : World) :
    Calls Try.prog 39 #[rowV x] w fun e w' => ∃ v0 : Value, e = .returned v0 ∧ Kd.R (Kd.int .i64) 3 w' w.heap.size (fun _ => True) v0 (lst x) ∧ Below w.heap.size w w' := by
  unfold rowV
  go_enter Try.func39, Try.ntmps39
  go_wp2_with fail
  go_loopw [3, 5] (fun v3 v5 wr => ∃ k : Nat, k ≤ 160 ∧ v5 = .int .i64 k ∧ Aside0 (LsW w wr x v3 (pre x k))) (fun _ v5 _ => 160 - (intOf v5).toNat)
  case atStart => exact ⟨0, by omega, rfl, ⟨⟨heap_alloc_new _ _, Kd.R_nil _ _ _ _ _, below_alloc (Below.refl _ _) _⟩⟩⟩
  case round =>
    obtain ⟨k, hk, rfl, HA⟩ := hrel
    by_cases hlt : k < 160
    · obtain ⟨c0, c1, c2, -⟩ := cell3 HA.out.b0
      have HS := Aside0.mk (pre_succ x k)
      have HC := Aside0.mk (has_calls x (k : Int) (by omega) (by omega) wr)
      have HP := Aside0.mk (pre_len x k)
      unfold rowV at HC
      rw [show (k : Int).toNat = k from rfl] at HC
      have h5 : (k : Int) < 160 := by omega
      cases hb : x.testBit k with
      | true =>
        rw [hb] at HC HS
        have HS' := Aside0.mk (HS.out.trans (if_pos rfl))
        clear hb HS
        go_wp2_with fail
        refine HC.out.mono ?_
        rintro e w1 ⟨rfl, hb1⟩
        have HA1 := Aside0.mk (HA.out.later hb1)
        clear HA HC c0 c1 c2 hb1
        go_wp2_with ((with_reducible refine gate_builtin (b := .append) (xs := #[.tmp 11, .tmp 13]) rfl ?_); at_builtin; refine Kd.R_append (Kd.int .i64) (w0 := w) w.heap.size rfl (.tmp 11) (.tmp 13) 38 3 (.int .i64 0) 8 rfl Try.underlying38 info3' rfl (by decide) (by omega) u3 (pre x k) (k : Int) [.int .i64 (k : Int)] (fun _ => True) (fun _ => False) rfl rfl rfl (fun _ hk => hk.elim) (fun _ _ => trivial) HA1.out.own HA1.out.hb HA1.out.hb.size (by have := HP.out; omega) ?_; intro v2 w2 hr2 hb2 hg2 _; have HA2 := Aside0.mk (HA1.out.grown hr2 hb2 hg2); clear HA1 hr2 hb2 hg2)

        go_roundw
        case rel => exact ⟨k + 1, by omega, by go_num, by rw [HS'.out]; exact HA2⟩
        case measure => simp [intOf]; omega
      | false => 
        rw [hb] at HC HS
        have HS' := Aside0.mk (HS.out.trans (if_neg (by decide)))
        clear hb HS
        go_wp2_with fail
        refine HC.out.mono ?_
        rintro e w1 ⟨rfl, hb1⟩
        have HA1 := Aside0.mk (HA.out.later hb1)
        clear HA HC c0 c1 c2 hb1
        go_wp2_with fail
        go_roundw
        case rel => exact ⟨k + 1, by omega, by go_num, by rw [HS'.out]; exact HA1⟩
        case measure => simp [intOf]; omega
    · obtain rfl : k = 160 := by omega
      go_wp2_with fail
      go_ret
      exact ⟨_, rfl, HA.out.own, HA.out.hb⟩
end Go.Proofs.Ytgcgnnblgimegaa.P
