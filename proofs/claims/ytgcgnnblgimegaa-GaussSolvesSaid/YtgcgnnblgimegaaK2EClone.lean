/- What the claim on this statement wants of the text YtgcgnnblgimegaaEClone. Not trusted: Lean checks it. -/
import Derived.Test.YtgcgnnblgimegaaK2EDel
import Derived.Lib.SliceRun
namespace Go.Proofs.Ytgcgnnblgimegaa.P
open Go.RowKit Go.Proofs.YtgcgnnblgimegaaW.PrintWords Go.Proofs.YtgcgnnblgimegaaW.PrintLast Go.Proofs.YtgcgnnblgimegaaW.PrintMore
open Go.Proofs.Ytgcgnnblgimegaa.Red
set_option linter.unusedVariables false
set_option linter.unusedSimpArgs false
theorem sd_cells {w : World} {ad : Addr} {n : Nat} {xs : List Sd} (h : kSd.C w (some ad) n xs) : ∀ j u, (cellsOf xs)[j]? = some u → w.cell? (ad.add j) = some u := by
  intro j u hj
  have hjl : j < xs.length * 4 := by
    have := (List.getElem?_eq_some_iff.1 hj).1
    rwa [cellsOf_len] at this
  obtain ⟨h1, h2, h3⟩ := h
  obtain ⟨ad', e, hc⟩ := h3 (by omega)
  cases e
  have hk : j / 4 < xs.length := by omega
  obtain ⟨c, hcl, hK, hcc⟩ := hc (j / 4) _ (List.getElem?_eq_getElem hk)
  obtain rfl : c = sdC xs[j / 4] := hK
  have e4 : kSd.sz = 4 := rfl
  have e := hcc (j % 4) u (by
    have h5 : (cellsOf xs)[j]? = (cellsOf (xs.drop (j / 4)))[j % 4]? := by
      rw [cellsOf_drop, List.getElem?_drop]
      congr 1
      omega
    rw [h5, List.drop_eq_getElem_cons hk] at hj
    show (sdC xs[j / 4])[j % 4]? = some u
    have h6 : cellsOf (xs[j / 4] :: xs.drop (j / 4 + 1)) = sdC xs[j / 4] ++ cellsOf (xs.drop (j / 4 + 1)) := rfl
    rw [h6, List.getElem?_append_left (by show j % 4 < 4; omega)] at hj
    exact hj)
  rw [e4, show j / 4 * 4 + j % 4 = j by omega] at e
  exact e
theorem clone_run (w : World) (ad : Addr) (c : Nat) (xs : List Sd) (h : kSd.C w (some ad) xs.length xs) (hb : xs.length ≤ 1000000) :
    ∃ v' w', (Builtin.append_ #[64, 64] 64 #[.slice (some ⟨w.heap.size, 0, none⟩) 0 0, .slice (some ad) xs.length c]).run Try.prog (w.alloc (.cells #[] 74)) = .ok v' w' ∧ kSd.R 74 w' w.heap.size (fun _ => True) v' xs ∧ Below w.heap.size w w' := by
  obtain ⟨i0, hi, hz0, hz1, hz2⟩ := info_parts info74
  have h0 : (w.alloc (.cells #[] 74)).ownsRow w.heap.size 74 4 (.slice (some ⟨w.heap.size, 0, none⟩) 0 0) 0 [] :=
    ⟨rfl, .inr ⟨w.heap.size, 0, #[], rfl, Nat.le_refl _, heap_alloc_new w _, Nat.le_refl _, Nat.zero_le _, rfl, rfl⟩⟩
  have hC := Kd.C_alloc h (.cells #[] 74)
  obtain ⟨v', w', hr, h2, h3, _⟩ := run_append_own (P := Try.prog) (w.alloc (.cells #[] 74)) w.heap.size 64 64 74 i0 _ 4 40 Try.underlying64 hi hz0 hz1 hz2 rfl (by decide) _ 0 _ h0 ad xs.length c (cellsOf xs) (cellsOf_len xs) (sd_cells hC) (cellsOf_one xs) (by unfold maxLen; omega) (by omega) (by show w.heap.size ≤ (w.heap.push _).size; simp)
  rw [Nat.zero_add, List.nil_append] at h2
  refine ⟨v', w', hr, sd_of_own (fun _ _ => trivial) h2, (below_alloc (Below.refl _ w) _).grown h3 (by show w.heap.size ≤ (w.heap.push _).size; simp) (fun k hk => by
    have : w.heap.size = k := by simpa [Value.ownBlock] using hk
    omega)⟩
set_option maxHeartbeats 1000000 in
set_option maxRecDepth 100000 in
theorem clone_calls (A : Option Addr) (c : Nat) (xs : List Sd) (w : World) (h : kSd.C w A xs.length xs) (hb : xs.length ≤ 1000000) :
    Calls Try.prog 73 #[.slice A xs.length c] w fun e w' => ∃ v', e = .returned v' ∧ kSd.R 74 w' w.heap.size (fun _ => True) v' xs ∧ Below w.heap.size w w' := by
  cases A with
  | none =>
    have h0 : xs.length = 0 := by
      rcases Nat.eq_zero_or_pos xs.length with h0 | hp
      · exact h0
      · obtain ⟨ad, e, _⟩ := h.2.2 hp
        cases e
    obtain rfl : xs = [] := List.eq_nil_of_length_eq_zero h0
    have hq := Lib.run_eql_slice_nil (P := Try.prog) w 64 74 none 0 c 0 0 Try.underlying64
    clear h h0
    go_enter Try.func73, Try.ntmps73
    go_wp2_with fail
    go_ret
    exact ⟨_, rfl, Kd.R_nil _ _ _ _ _, Below.refl _ _⟩
  | some ad =>
    obtain ⟨v', w', hr, hR, hB⟩ := clone_run w ad c xs h hb
    have HR := Aside0.mk hr
    have H1 := Aside0.mk hR
    have H2 := Aside0.mk hB
    obtain ⟨n, hn⟩ : ∃ n, n = xs.length := ⟨_, rfl⟩
    rw [← hn] at HR ⊢
    have hq := Lib.run_eql_slice_nil (P := Try.prog) w 64 74 (some ad) n c 0 0 Try.underlying64
    clear h hr hR hB hn hb
    go_enter Try.func73, Try.ntmps73
    go_wp2_with ((with_reducible refine gate_builtin (b := .append) (xs := #[.tmp 5, .tmp 6]) rfl ?_); at_builtin; refine wpList_append_eq rfl (.tmp 5) (.tmp 6) 64 64 rfl _ _ rfl rfl HR ?_)
    go_ret
    exact ⟨_, rfl, H1.out, H2.out⟩
end Go.Proofs.Ytgcgnnblgimegaa.P
