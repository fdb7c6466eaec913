/- What the claim on this statement wants of the text YtgcgnnblgimegaaEDel. Not trusted: Lean checks it. -/
import Derived.Test.YtgcgnnblgimegaaK2EClear
namespace Go.Proofs.Ytgcgnnblgimegaa.P
open Go.RowKit Go.Proofs.YtgcgnnblgimegaaW.PrintWords Go.Proofs.YtgcgnnblgimegaaW.PrintLast Go.Proofs.YtgcgnnblgimegaaW.PrintMore
open Go.Proofs.Ytgcgnnblgimegaa.Red
set_option linter.unusedVariables false
set_option linter.unusedSimpArgs false
def cellsOf (xs : List Sd) : List Value := xs.flatMap sdC
theorem cellsOf_len (xs : List Sd) : (cellsOf xs).length = xs.length * 4 := by
  unfold cellsOf
  induction xs with
  | nil => rfl
  | cons x xs ih => rw [List.flatMap_cons, List.length_append, ih, List.length_cons]; simp [sdC]; omega
theorem cellsOf_append (xs ys : List Sd) : cellsOf (xs ++ ys) = cellsOf xs ++ cellsOf ys := by simp [cellsOf]
theorem cellsOf_take (xs : List Sd) (k : Nat) : cellsOf (xs.take k) = (cellsOf xs).take (k * 4) := by
  by_cases h : k ≤ xs.length
  · have e : cellsOf xs = cellsOf (xs.take k) ++ cellsOf (xs.drop k) := by rw [← cellsOf_append, List.take_append_drop]
    have hl : (cellsOf (xs.take k)).length = k * 4 := by rw [cellsOf_len, List.length_take]; omega
    rw [e, ← hl, List.take_left]
  · rw [List.take_of_length_le (by omega), List.take_of_length_le (by rw [cellsOf_len]; omega)]
theorem cellsOf_drop (xs : List Sd) (k : Nat) : cellsOf (xs.drop k) = (cellsOf xs).drop (k * 4) := by
  by_cases h : k ≤ xs.length
  · have e : cellsOf xs = cellsOf (xs.take k) ++ cellsOf (xs.drop k) := by rw [← cellsOf_append, List.take_append_drop]
    have hl : (cellsOf (xs.take k)).length = k * 4 := by rw [cellsOf_len, List.length_take]; omega
    rw [e, ← hl, List.drop_left]
  · rw [List.drop_eq_nil_of_le (by omega), List.drop_eq_nil_of_le (by rw [cellsOf_len]; omega)]
    rfl
theorem cellsOf_one (xs : List Sd) : ∀ u ∈ cellsOf xs, u.oneCell' = true := by
  intro u hu
  obtain ⟨s, _, hs⟩ := List.mem_flatMap.1 hu
  exact kSd.K_one (w := default) (x := s) (cs := sdC s) rfl u hs
theorem reps_inner {xs : List Sd} : ∀ {inner : List Value}, Reps (fun (x : Sd) (cs : List Value) => cs = sdC x) 4 xs inner → inner = cellsOf xs := by
  induction xs with
  | nil => intro inner h; exact List.eq_nil_of_length_eq_zero (by simpa using h.1)
  | cons x xs ih =>
    intro inner h
    have h0 := h.2 0 x rfl
    rw [Nat.zero_mul, List.drop_zero] at h0
    have hr : Reps (fun (x : Sd) (cs : List Value) => cs = sdC x) 4 xs (inner.drop 4) := by
      refine ⟨by rw [List.length_drop, h.1, List.length_cons]; omega, fun j p hj => ?_⟩
      have := h.2 (j + 1) p (by simpa using hj)
      rw [List.drop_drop]
      rwa [show 4 + j * 4 = (j + 1) * 4 by omega]
    have := ih hr
    rw [← List.take_append_drop 4 inner, h0, this]
    rfl
theorem reps_cells (xs : List Sd) : Reps (fun (x : Sd) (cs : List Value) => cs = sdC x) 4 xs (cellsOf xs) := by
  refine ⟨cellsOf_len xs, fun j p hj => ?_⟩
  obtain ⟨hl, hp⟩ := List.getElem?_eq_some_iff.1 hj
  rw [← cellsOf_drop, List.drop_eq_getElem_cons hl, hp]
  rfl
theorem sd_own {w : World} {base : Nat} {ok : Nat → Prop} {v : Value} {xs : List Sd} (h : kSd.R 74 w base ok v xs) : w.ownsRow base 74 4 v xs.length (cellsOf xs) := by
  obtain ⟨_, inner, ho, hr⟩ := h
  have := reps_inner hr
  rw [← this]
  exact ho
theorem sd_of_own {w : World} {base : Nat} {ok : Nat → Prop} {v : Value} {xs : List Sd} (hok : ∀ k, v.ownBlock = some k → ok k) (h : w.ownsRow base 74 4 v xs.length (cellsOf xs)) : kSd.R 74 w base ok v xs :=
  ⟨hok, _, h, reps_cells xs⟩
theorem info74 : (Try.prog.info? 74).map (fun i => (i.zero, i.size, i.bytes)) = some (some (.agg #[.int .u64 0, .int .u64 0, .int .u64 0, .string ⟨#[]⟩]), 4, 40) := by kernel_rfl
/-- The k-th side taken out: what stands behind it moves up, the last place is struck. -/
theorem sd_del {w : World} {base c g : Nat} {ok : Nat → Prop} {xs : List Sd} (h : kSd.R 74 w base ok (.slice (some ⟨g, 0, none⟩) xs.length c) xs) (k : Nat) (hk : k < xs.length) (z : List Value) (hz : z.length = 4) :
    kSd.R 74 ((w.setCells g (k * 4) (cellsOf (xs.drop (k + 1)))).setCells g ((xs.length - 1) * 4) z) base ok (.slice (some ⟨g, 0, none⟩) (xs.length - 1) c) (xs.eraseIdx k) ∧
    w.grownBy ((w.setCells g (k * 4) (cellsOf (xs.drop (k + 1)))).setCells g ((xs.length - 1) * 4) z) (some g) := by
  have ho := sd_own h
  rcases ho.2 with ⟨hv, _⟩ | ⟨g', cap', cur, hv, hb, hh, hnc, hcm, hcs, htk⟩
  · cases hv
  cases hv
  have hL : (cellsOf (xs.drop (k + 1))).length = (xs.length - 1 - k) * 4 := by rw [cellsOf_len, List.length_drop]; congr 1; omega
  have hcl : xs.length * 4 ≤ cur.size := by rw [hcs]; exact Nat.mul_le_mul_right _ hnc
  obtain ⟨c1, h3, h4, h5⟩ := setCells_row (cellsOf (xs.drop (k + 1))) (k * 4) w cur hh (by rw [hL]; omega)
  obtain ⟨c2, h6, h7, h8⟩ := setCells_row z ((xs.length - 1) * 4) _ c1 h3 (by rw [hz, h4]; omega)
  have hl : (xs.eraseIdx k).length = xs.length - 1 := List.length_eraseIdx_of_lt hk
  have hc0 : cur.toList.length = cur.size := Array.length_toList
  have hc1 : c1.toList.length = cur.size := Array.length_toList.trans h4
  refine ⟨sd_of_own h.1 ⟨by rw [cellsOf_len], .inr ⟨g, c, c2, by rw [hl], hb, h6, by rw [hl]; omega, hcm, by rw [h7, h4, hcs], ?_⟩⟩, ?_⟩
  · rw [hl, h8, List.take_append_of_le_length (by rw [List.length_append, List.length_take, hc1]; omega)]
    rw [List.take_append_of_le_length (by rw [List.length_take, hc1]; omega), List.take_take, Nat.min_self, h5, List.eraseIdx_eq_take_drop_succ, cellsOf_append, cellsOf_take]
    rw [← htk, List.take_take, Nat.min_eq_left (by omega)]
    have h9 : (cur.toList.take (k * 4)).length = k * 4 := by rw [List.length_take, hc0]; omega
    rw [List.append_assoc, List.take_append, h9, List.take_of_length_le (by rw [h9]; omega)]
    congr 1
    rw [List.take_append_of_le_length (by rw [hL]; omega), List.take_of_length_le (by rw [hL]; omega)]
  · obtain ⟨s1, s2, s3, s4⟩ := setCells_same g (cellsOf (xs.drop (k + 1))) (k * 4) w
    obtain ⟨t1, t2, t3, t4⟩ := setCells_same g z ((xs.length - 1) * 4) (w.setCells g (k * 4) (cellsOf (xs.drop (k + 1))))
    exact ⟨t1.trans s1, t2.trans s2, t3.trans s3, by rw [t4, s4]; exact Nat.le_refl _, fun j _ hj => by
      have : j ≠ g := fun e => hj (by rw [e])
      rw [setCells_far _ _ j this, setCells_far _ _ j this]⟩
section
variable {P : Program} {ops : Array Oper} {rest : List Oper} {o : Oper} {a : Act} {Q : Exit → Act → World → Prop}
/-- 'append' by what it is known to come to. -/
theorem wpList_append_eq {w w' : World} {v : Value} (hgd : o.guard = none) (s x : Operand) (t u : TypeId) (hop : o.op = .call { callee := .builtin .append, args := #[s, x], argTypes := #[t, u] })
    (sv y : Value) (hs : a.eval s = sv) (hx : a.eval x = y) (hrun : Aside0 ((Builtin.append_ #[t, u] o.type #[sv, y]).run P w = .ok v w')) (h : wpList P ops Q rest (a.put o.dst v) w') : wpList P ops Q (o :: rest) a w := by
  refine Kd.event_run hgd ?_ h
  unfold execOp
  simp only [hop, resolve, invoke, builtin, Sem.run_bind, Sem.run_pure, Result.andThen_ok, List.map_toArray, List.map_cons, List.map_nil, hs, hx, hrun.out]
/-- 'clear' by what it is known to come to. -/
theorem wpList_clear_eq {w w' : World} {v : Value} (hgd : o.guard = none) (s : Operand) (t : TypeId) (hop : o.op = .call { callee := .builtin .clear, args := #[s], argTypes := #[t] })
    (sv : Value) (hs : a.eval s = sv) (hrun : Aside0 ((Builtin.clear_ #[t] o.type #[sv]).run P w = .ok v w')) (h : wpList P ops Q rest (a.put o.dst v) w') : wpList P ops Q (o :: rest) a w := by
  refine Kd.event_run hgd ?_ h
  unfold execOp
  simp only [hop, resolve, invoke, builtin, Sem.run_bind, Sem.run_pure, Result.andThen_ok, List.map_toArray, List.map_cons, List.map_nil, hs, hrun.out]
end
theorem setCells_some (g : Nat) : ∀ (vs : List Value) (o : Nat) (w : World) (a : Addr) {v : Value}, w.cell? a = some v → ∃ u, (w.setCells g o vs).cell? a = some u
  | [], _, _, _, v, h => ⟨v, h⟩
  | x :: r, o, w, a, v, h => by
    obtain ⟨u, hu⟩ := cell?_setCell_some (p := ⟨g, o, none⟩) (x := x) h
    exact setCells_some g r (o + 1) _ a hu
theorem zero74 (w : World) : (zeroValue 74).run Try.prog w = .ok (.agg #[.int .u64 0, .int .u64 0, .int .u64 0, .string ⟨#[]⟩]) w := by kernel_rfl
def z74 : List Value := [.int .u64 0, .int .u64 0, .int .u64 0, .string ⟨#[]⟩]
/-- 'clear' of one side. -/
theorem run_clear_one (w : World) (ty : TypeId) (b o c : Nat) (hc : ∀ j, j < 4 → (w.cell? ⟨b, o + j, none⟩).isSome = true) (hf : ∀ j, j < 4 → w.frozen? ⟨b, o + j, none⟩ = false) :
    (Builtin.clear_ #[64] ty #[.slice (some ⟨b, o, none⟩) 1 c]).run Try.prog w = .ok (.tuple #[]) (w.setCells b o z74) := by
  have hst := run_storeCells_cells (P := Try.prog) b o z74 0 w (by simpa [z74] using hc) (by simpa [z74] using hf) (by intro v hv; simp [z74] at hv; rcases hv with rfl | rfl <;> rfl)
  simp only [Nat.add_zero] at hst
  have hzc : (Builtin.zeroCells (Value.agg #[.int .u64 0, .int .u64 0, .int .u64 0, .string ⟨#[]⟩]).cells 1).toList = z74 := by kernel_rfl
  simp [Builtin.clear_, run_underlying Try.underlying64, zero74, hzc, hst]
theorem del_append (W : World) (base : Nat) (ok : Nat → Prop) (g c : Nat) (xs : List Sd) (h : kSd.R 74 W base ok (.slice (some ⟨g, 0, none⟩) xs.length c) xs) (k : Nat) (hk : k < xs.length) (o2 c2 : Nat) (ho : c = k + 1 ∨ o2 = (k + 1) * 4) (ty : TypeId) :
    (Builtin.append_ #[64, 64] ty #[.slice (some ⟨g, 0, none⟩) k c, .slice (some ⟨g, o2, none⟩) (xs.length - (k + 1)) c2]).run Try.prog W = .ok (.slice (some ⟨g, 0, none⟩) (xs.length - 1) c) (W.setCells g (k * 4) (cellsOf (xs.drop (k + 1)))) := by
  have hown := sd_own h
  have hnc := (Kd.R_reads' h).2.1
  obtain ⟨i0, hi, hz0, hz1, hz2⟩ := info_parts info74
  have hcell := hown.cells (g := g) rfl
  have hfz := sd_froz h
  have hl : (cellsOf (xs.drop (k + 1))).length = (xs.length - (k + 1)) * 4 := by rw [cellsOf_len, List.length_drop]
  have hr := run_append_room_cells (P := Try.prog) W 64 ty 74 i0 Try.underlying64 hi g 0 k c ⟨g, o2, none⟩ (xs.length - (k + 1)) c2 (cellsOf (xs.drop (k + 1))) (by rw [hl, hz1])
    (fun j u hj => by
      have hjl : j < (cellsOf (xs.drop (k + 1))).length := (List.getElem?_eq_some_iff.1 hj).1
      rw [cellsOf_drop, List.getElem?_drop] at hj
      have := hcell _ u hj
      rw [add_at, Nat.zero_add] at this
      rw [add_at]
      rcases ho with ho | ho
      · omega
      · rw [ho]; exact this)
    (cellsOf_one _) (by omega)
    (fun j hj => by
      rw [hz1, Nat.zero_add]
      have hlt : k * 4 + j < (cellsOf xs).length := by rw [hl] at hj; rw [cellsOf_len]; omega
      have := hcell (k * 4 + j) _ (List.getElem?_eq_getElem hlt)
      rw [add_at, Nat.zero_add] at this
      rw [this]; rfl)
    (fun j hj => hfz _)
  rw [hz1, Nat.zero_add, show k + (xs.length - (k + 1)) = xs.length - 1 by omega] at hr
  exact hr
set_option maxHeartbeats 1000000 in
set_option maxRecDepth 100000 in
theorem del_calls (W : World) (base : Nat) (ok : Nat → Prop) (g c : Nat) (xs : List Sd) (h : kSd.R 74 W base ok (.slice (some ⟨g, 0, none⟩) xs.length c) xs) (k : Nat) (hk : k < xs.length) :
    Calls Try.prog 77 #[.slice (some ⟨g, 0, none⟩) xs.length c, .int .i64 k, .int .i64 ((k : Int) + 1)] W fun e w' =>
      e = .returned (.slice (some ⟨g, 0, none⟩) (xs.length - 1) c) ∧ kSd.R 74 w' base ok (.slice (some ⟨g, 0, none⟩) (xs.length - 1) c) (xs.eraseIdx k) ∧ W.grownBy w' (some g) := by
  have H := Aside0.mk h
  have hnc := (Kd.R_reads' h).2.1
  have hmax := (Kd.R_reads' h).2.2.2.1
  obtain ⟨n, hn⟩ : ∃ n, n = xs.length := ⟨_, rfl⟩
  rw [← hn] at hk hnc hmax H ⊢
  obtain ⟨nl, hnl⟩ : ∃ nl, nl = n - 1 := ⟨_, rfl⟩
  rw [← hnl]
  have a1 : (k : Int) ≤ (k : Int) + 1 := by omega
  have a2 : (k : Int) + 1 ≤ (n : Int) := by omega
  have a3 : (n : Int) ≤ (c : Int) := by omega
  have a4 : (nl : Int) ≤ (n : Int) := by omega
  have a5 : ((k : Int) == (k : Int) + 1) = false := by simp; omega
  have HN := Aside0.mk hn
  have HNL := Aside0.mk hnl
  have b1 : k ≤ c := by omega
  have b2 : k + 1 ≤ n := hk
  have b3 : k + 1 ≤ c := by omega
  have a6 : (0 : Int) ≤ (k : Int) + 1 := by omega
  obtain ⟨o2, hif, ho2⟩ : ∃ o2, (if c = k + 1 then some (⟨g, 0, none⟩ : Addr) else some ⟨g, (k + 1) * 4, none⟩) = some ⟨g, o2, none⟩ ∧ (c = k + 1 ∨ o2 = (k + 1) * 4) := by
    by_cases e : c = k + 1
    · exact ⟨0, by rw [if_pos e], .inl e⟩
    · exact ⟨(k + 1) * 4, by rw [if_neg e], .inr rfl⟩
  clear h hn hnl
  go_enter Try.func77, Try.ntmps77
  go_wp2_with fail
  refine still_tail 6 (by kernel_rfl) (by kernel_rfl) ?_
  simp only [List.take_succ_cons, List.take_zero, List.drop_succ_cons, List.drop_zero]
  repeat still_step
  refine wpStill_nil ?_
  have hap := del_append W.drew base ok g c xs (by rw [← HN.out]; exact Kd.R_drew H.out) k (by rw [← HN.out]; exact b2) o2 (c - (k + 1)) ho2 64
  rw [← HN.out, ← HNL.out] at hap
  have HAP := Aside0.mk hap
  clear hap hif
  have b4 : ¬ c = nl := by have := HNL.out; omega
  have HR1 := Kd.R_drew H.out
  rw [HN.out] at HR1
  have HDEL := sd_del HR1 k (by rw [← HN.out]; exact b2) z74 rfl
  rw [← HN.out, ← HNL.out] at HDEL
  have HDEL := Aside0.mk HDEL
  have hcl : (Builtin.clear_ #[64] 0 #[.slice (some ⟨g, nl * 4, none⟩) (n - nl) (c - nl)]).run Try.prog (W.drew.setCells g (k * 4) (cellsOf (xs.drop (k + 1)))) = .ok (.tuple #[]) ((W.drew.setCells g (k * 4) (cellsOf (xs.drop (k + 1)))).setCells g (nl * 4) z74) := by
    rw [show n - nl = 1 by have := HNL.out; omega]
    exact run_clear_one (W.drew.setCells g (k * 4) (cellsOf (xs.drop (k + 1)))) 0 g (nl * 4) (c - nl) (fun j hj => by
      have hlt : nl * 4 + j < (cellsOf xs).length := by rw [cellsOf_len, ← HN.out]; have := HNL.out; omega
      have h1 := (sd_own HR1).cells (g := g) rfl (nl * 4 + j) _ (List.getElem?_eq_getElem hlt)
      rw [add_at, Nat.zero_add] at h1
      obtain ⟨u, hu⟩ := setCells_some g (cellsOf (xs.drop (k + 1))) (k * 4) W.drew ⟨g, nl * 4 + j, none⟩ h1
      rw [hu]; rfl) (fun j hj => by rw [World.frozen?_setCells]; exact sd_froz HR1 _)
  have HCL := Aside0.mk hcl
  clear hcl HR1
  go_wp2_with (first | ((with_reducible refine gate_builtin (b := .append) (xs := #[.tmp 22, .tmp 25]) rfl ?_); at_builtin; refine wpList_append_eq rfl (.tmp 22) (.tmp 25) 64 64 rfl _ _ rfl rfl HAP ?_) | ((with_reducible refine gate_builtin (b := .clear) (xs := #[.tmp 31]) rfl ?_); refine wpList_clear_eq rfl (.tmp 31) 64 rfl _ rfl HCL ?_))
  go_ret
  exact ⟨rfl, HDEL.out.1, (World.grownBy.trans (b := W.drew) ⟨rfl, rfl, rfl, Nat.le_refl _, fun _ _ _ => rfl⟩ HDEL.out.2)⟩
end Go.Proofs.Ytgcgnnblgimegaa.P
