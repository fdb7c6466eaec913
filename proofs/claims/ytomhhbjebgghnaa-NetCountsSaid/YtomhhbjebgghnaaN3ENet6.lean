/- What the claim on this statement wants of the text YtomhhbjebgghnaaENet6. Not trusted: Lean checks it. -/
import Derived.Test.YtomhhbjebgghnaaN3ENet5
namespace Go.Proofs.Ytomhhbjebgghnaa.P
open Go.RowKit Go.Proofs.YtomhhbjebgghnaaW.PrintWords Go.Proofs.YtomhhbjebgghnaaW.PrintLast Go.Proofs.YtomhhbjebgghnaaW.PrintMore
open Go.Proofs.Ytomhhbjebgghnaa.Emap
set_option linter.unusedVariables false
set_option linter.unusedSimpArgs false
/-- What the round has gathered: of the entries that came, those for which p says yes. -/
def got (M : List (Int × S29)) (p : S29 → Bool) (js : List Nat) : List Int := (js.filterMap fun j => M[j]?).filterMap fun e => if p e.2 then some e.1 else none
structure IdW (w wr : World) (b r : Nat) (es : Array MapEntry) (clock : Nat) (M : List (Int × S29)) (p : S29 → Bool) (v5 : Value) (js : List Nat) : Prop where
  it : ∃ seen : Array Nat, wr.heap[r]? = some (.mapIter (some b) clock seen clock) ∧ seen.toList = js.filterMap fun j => (es.toList[j]?).map (·.born)
  mp : wr.heap[b]? = some (.map es clock)
  nd : js.Nodup
  lt : ∀ j ∈ js, j < es.size
  row : Kd.R (Kd.int .i64) 3 wr w.heap.size (fun _ => True) v5 (got M p js)
  below : Below w.heap.size w wr
theorem got_snoc (M : List (Int × S29)) (p : S29 → Bool) (js : List Nat) (j : Nat) (e : Int × S29) (he : M[j]? = some e) : got M p (js ++ [j]) = got M p js ++ if p e.2 then [e.1] else [] := by
  unfold got
  rw [List.filterMap_append, List.filterMap_append]
  congr 1
  simp only [List.filterMap_cons, List.filterMap_nil, he]
  cases p e.2 <;> rfl
theorem got_len (M : List (Int × S29)) (p : S29 → Bool) (js : List Nat) : (got M p js).length ≤ js.length := by
  unfold got
  exact Nat.le_trans (List.length_filterMap_le _ _) (List.length_filterMap_le _ _)
/-- The numbers of those for which p says yes, as they stand. -/
def idsOf (M : List (Int × S29)) (p : S29 → Bool) : List Int := (M.filter fun e => p e.2).map (·.1)
theorem range_all {α : Type} : ∀ M : List α, (List.range M.length).filterMap (fun j => M[j]?) = M
  | [] => rfl
  | a :: M => by
    rw [List.length_cons, List.range_succ_eq_map, List.filterMap_cons]
    simp only [List.getElem?_cons_zero, List.filterMap_map]
    exact congrArg (a :: ·) (range_all M)
theorem got_all (M : List (Int × S29)) (p : S29 → Bool) (js : List Nat) (hn : js.Nodup) (hlt : ∀ j ∈ js, j < M.length) (hall : ∀ j, j < M.length → j ∈ js) (hs : (M.map (·.1)).Pairwise (· < ·)) :
    sorted (got M p js) = idsOf M p := by
  have hperm : js.Perm (List.range M.length) := by
    refine (List.perm_ext_iff_of_nodup hn List.nodup_range).2 fun j => ?_
    rw [List.mem_range]
    exact ⟨hlt j, hall j⟩
  have h1 : (got M p js).Perm (got M p (List.range M.length)) := (hperm.filterMap _).filterMap _
  have h2 : got M p (List.range M.length) = idsOf M p := by
    unfold got idsOf
    have this := range_all M
    rw [this]
    clear this h1 hperm hs hall hlt hn
    induction M with
    | nil => rfl
    | cons e M ih =>
      rw [List.filterMap_cons, List.filter_cons]
      cases p e.2 with
      | true => simp [ih]
      | false => simpa using ih
  rw [h2] at h1
  have hsort : (idsOf M p).Pairwise (· < ·) := by
    unfold idsOf
    rw [List.pairwise_map] at hs ⊢
    exact hs.filter _
  unfold sorted
  refine List.Perm.eq_of_pairwise (le := fun a b => a ≤ b) (fun a b _ _ h1 h2 => by omega) ?_ (hsort.imp fun h => by omega) ((List.mergeSort_perm _ _).trans h1)
  exact (List.pairwise_mergeSort (le := fun x y => decide (x ≤ y)) (fun a b c h1 h2 => by simp at *; omega) (fun a b => by simp; omega) _).imp fun h => by simpa using h
/-- A row's block is none that holds another thing. -/
theorem row_ne {α : Type} {d : Kd α} {e base : Nat} {ok : Nat → Prop} {w : World} {v : Value} {xs : List α} (h : d.R e w base ok v xs) {r : Nat} {o : Obj} (hr : w.heap[r]? = some o) (ho : ∀ c t f, o ≠ .cells c t f := by intros; simp) : some r ≠ v.ownBlock := by
  intro e'
  obtain ⟨inner, hw⟩ := Kd.R_own h
  obtain ⟨cells, hc⟩ := own_typed hw r e'.symm
  rw [hr] at hc
  exact ho _ _ _ (Option.some.inj hc)
set_option maxHeartbeats 1000000 in
set_option maxRecDepth 100000 in
theorem ids32_calls (g b : Nat) (room last : Int) (M : List (Int × S29)) (p : S29 → Bool) (w : World) (hn : NetAt w g b room last M) (hl : M.length ≤ 1000) (hs : (M.map (·.1)).Pairwise (· < ·))
    (hp : ∀ (y : S29) (w1 : World), Below w.heap.size w w1 → Calls Try.prog 32 #[gV y] w1 fun e w' => e = .returned (.bool (p y)) ∧ Below w1.heap.size w1 w') :
    Calls Try.prog 31 #[.pointer (some ⟨g, 0, none⟩), .func (.func 32) #[] #[]] w fun e w' => ∃ v : Value, e = .returned v ∧ Kd.R (Kd.int .i64) 3 w' w.heap.size (fun _ => True) v (idsOf M p) ∧ Below w.heap.size w w' := by
  obtain ⟨es, clock, hm, he⟩ := hn.map
  have hrange := range_ok (P := Try.prog) Try.underlying63 hm
  obtain ⟨c0, c1, c2, cf⟩ := cell3n hn.box
  obtain ⟨W, hW⟩ : ∃ W, W = w.alloc (.mapIter (some b) clock #[] clock) := ⟨_, rfl⟩
  obtain ⟨r, hr⟩ : ∃ r, r = w.heap.size := ⟨_, rfl⟩
  have H0 : Aside0 (IdW w W b r es clock M p (.slice none 0 0) []) := ⟨{
    it := ⟨#[], by rw [hW, hr]; exact heap_alloc_new _ _, rfl⟩
    mp := by rw [hW]; exact (heap_alloc_old _ _ _ hn.lt.2).trans hm
    nd := List.nodup_nil
    lt := fun _ h => by cases h
    row := Kd.R_nil _ _ _ _ _
    below := by rw [hW]; exact below_alloc (Below.refl _ w) _ }⟩
  have HE := Aside0.mk he
  have HL := Aside0.mk hl
  have HS := Aside0.mk hs
  have HP := Aside0.mk hp
  have HR := Aside0.mk (show w.heap.size ≤ r by rw [hr]; exact Nat.le_refl _)
  rw [← hr, ← hW] at hrange
  clear hn hm he hl hs hp
  go_enter Try.func31, Try.ntmps31
  go_wp2_with fail
  try rw [← hr, ← hW]
  try go_frame
  have HNE : Aside0 (b ≠ r) := ⟨by
    intro e
    have h1 := H0.out.mp
    obtain ⟨seen, h2, _⟩ := H0.out.it
    rw [e, h2] at h1; cases h1⟩
  clear hr hW hrange c0 c1 c2 cf
  go_loopw [5] (fun v5 wr => ∃ js : List Nat, Aside0 (IdW w wr b r es clock M p v5 js)) (fun _ wr => leftN wr r b)
  case atStart => exact ⟨[], H0⟩
  case round =>
    obtain ⟨js, HA⟩ := hrel
    obtain ⟨seen, hit, hseen⟩ := HA.out.it
    have hlen : (got M p js).length ≤ es.size := Nat.le_trans (got_len M p js) (by
      have : js.length ≤ (List.range es.size).length := List.Nodup.length_le_of_subset HA.out.nd (fun j hj => List.mem_range.2 (HA.out.lt j hj))
      simpa using this)
    have hll : es.size = M.length := HE.out.size
    obtain ⟨A5, c5, e5⟩ := Kd.R_slice HA.out.row
    subst e5
    rcases next_ok (P := Try.prog) hit HA.out.mp HE.out.born HE.out.dist 0 with ⟨hall, hrun⟩ | ⟨j, e, w1, hej, hse, hrun, hit1, hmp1, hgr, hsz, hent⟩
    · have HALL : Aside0 (sorted (got M p js) = idsOf M p) := ⟨by
        refine got_all M p js HA.out.nd (fun j hj => by have := HA.out.lt j hj; omega) (fun j hj => ?_) HS.out
        have hj' : j < es.toList.length := by simpa [hll] using hj
        have h1 := hall es.toList[j] (List.getElem_mem hj')
        rw [Array.contains_iff_mem, ← Array.mem_toList_iff, hseen] at h1
        obtain ⟨i, hi, hib⟩ := List.mem_filterMap.1 h1
        obtain ⟨e', he', hb'⟩ := Option.map_eq_some_iff.1 hib
        have hilt := HA.out.lt i hi
        have hi' : i < es.toList.length := by simpa using hilt
        rw [List.getElem?_eq_getElem hi'] at he'
        have he'' := Option.some.inj he'
        have : i = j := by
          have hd := HE.out.dist
          rw [List.nodup_iff_pairwise_ne] at hd
          have hd := List.pairwise_iff_getElem.1 hd
          rcases Nat.lt_trichotomy i j with h | h | h
          · exact absurd (by rw [List.getElem_map, List.getElem_map, he'']; exact hb') (hd i j (by rw [List.length_map]; exact hi') (by rw [List.length_map]; exact hj') h)
          · exact h
          · exact absurd (by rw [List.getElem_map, List.getElem_map, he'']; exact hb'.symm) (hd j i (by rw [List.length_map]; exact hj') (by rw [List.length_map]; exact hi') h)
        rw [← this]; exact hi⟩
      have HSO := Aside0.mk (sort_calls _ _ wr HA.out.row (by have := HL.out; omega))
      clear hit hseen hall hlen hll
      go_wp2_with fail
      refine HSO.out.mono ?_
      rintro e w1 ⟨rfl, hr1, hg1⟩
      have HR1 := Aside0.mk hr1
      have HB1 := Aside0.mk (pw_below_grown HA.out.below _ HA.out.below.size hg1 (fun k hk => Kd.R_base HA.out.row k hk))
      clear hr1 hg1 HSO
      go_wp2_with fail
      go_ret
      exact ⟨_, rfl, by rw [← HALL.out]; exact HR1.out, HB1.out⟩
    · obtain ⟨q, hq, hk, hv⟩ := HE.out.at_ hej
      obtain ⟨k, y⟩ := q
      have hk' : e.key = .int .i64 k := hk
      have hv' : e.val = .agg #[.int .i64 y.f0, .int .i64 y.f1, .string y.f2] := hv
      rw [hk', hv'] at hrun hent
      have HGS := Aside0.mk (got_snoc M p js j (k, y) hq)
      have hjn : j ∉ js := by
        intro hj
        have h1 : e.born ∈ seen := by
          rw [← Array.mem_toList_iff, hseen]
          exact List.mem_filterMap.2 ⟨j, hj, by rw [hej]; rfl⟩
        rw [← Array.contains_iff_mem] at h1
        rw [h1] at hse; cases hse
      have hjl : j < es.size := by have := (List.getElem?_eq_some_iff.1 hej).1; simpa using this
      have hem : e ∈ es.toList := List.mem_of_getElem? hej
      have HMES := Aside0.mk (unseen_push hem hse)
      have HOLD : Aside0 (leftN wr r b = (unseen es seen).length) := ⟨leftN_eq hit HA.out.mp⟩
      have hnd1 : (js ++ [j]).Nodup := by
        rw [List.nodup_append]
        refine ⟨HA.out.nd, by simp, fun a ha c hc e => ?_⟩
        have hc' : c = j := by simpa using hc
        exact hjn (by rw [← hc', ← e]; exact ha)
      have HJ1 : Aside0 ((js ++ [j]).Nodup ∧ ∀ i ∈ js ++ [j], i < es.size) := ⟨hnd1, fun i hi => by
        rcases List.mem_append.1 hi with hi | hi
        · exact HA.out.lt i hi
        · have : i = j := by simpa using hi
          rw [this]; exact hjl⟩
      have HSN : Aside0 ((seen.push e.born).toList = (js ++ [j]).filterMap fun j => (es.toList[j]?).map (·.born)) := ⟨by rw [Array.toList_push, List.filterMap_append, hseen, List.filterMap_cons, hej]; rfl⟩
      -- the world behind the step, with the datagram's copy
      obtain ⟨W2, hW2⟩ : ∃ W2, W2 = w1.alloc (.cells #[.int .i64 y.f0, .int .i64 y.f1, .string y.f2] 29) := ⟨_, rfl⟩
      obtain ⟨g7, hg7⟩ : ∃ g7, g7 = w1.heap.size := ⟨_, rfl⟩
      obtain ⟨y0, y1, y2, yf⟩ := cell3n (show W2.heap[g7]? = some (.cells #[.int .i64 y.f0, .int .i64 y.f1, .string y.f2] 29 (0, 0)) by rw [hW2, hg7]; exact heap_alloc_new _ _)
      have hb12 : Below w1.heap.size w1 W2 := by rw [hW2]; exact below_alloc (Below.refl _ w1) _
      have hb01 : Below w.heap.size w w1 := pw_below_grown HA.out.below _ HA.out.below.size hgr (fun k hk => by cases hk; exact HR.out)
      have hrl : r < w1.heap.size := (Array.getElem?_eq_some_iff.1 hit1).1
      have hbl : b < w1.heap.size := (Array.getElem?_eq_some_iff.1 hmp1).1
      have hrow1 : Kd.R (Kd.int .i64) 3 w1 w.heap.size (fun _ => True) (.slice A5 (got M p js).length c5) (got M p js) := Kd.R_mono (Kd.R_step (Kd.R_bound HA.out.row) (fun k hk hlt => hgr.block k hlt (fun e => by
        cases e
        obtain ⟨_, _, _, q, _, cells, hc⟩ := hk
        rw [hit] at hc; cases hc))) (fun _ _ => trivial)
      have HI2 : Aside0 (IdW w W2 b r es clock M p (.slice A5 (got M p js).length c5) js → True) := ⟨fun _ => trivial⟩
      have HIT2 : Aside0 (W2.heap[r]? = some (.mapIter (some b) clock (seen.push e.born) clock) ∧ W2.heap[b]? = some (.map es clock)) := ⟨(hb12.block r hrl).trans hit1, (hb12.block b hbl).trans hmp1⟩
      have HROW2 := Aside0.mk (Kd.R_below hrow1 hb12)
      have HB2 := Aside0.mk (below_step hb01 hb12)
      have HPY := Aside0.mk (HP.out y W2 HB2.out)
      rw [show gV y = .agg #[.int .i64 y.f0, .int .i64 y.f1, .string y.f2] from rfl] at HPY
      have HGL : Aside0 ((got M p js).length ≤ 1000) := ⟨by have := HL.out; omega⟩
      clear hit hseen hlen hll hej hse hit1 hmp1 hgr hsz hk hv hk' hv' hjn hjl hem hnd1 hb12 hb01 hrl hbl hrow1 HI2 hq
      cases hpy : p y with
      | false =>
        rw [hpy] at HPY
        have HG1 : Aside0 (got M p (js ++ [j]) = got M p js) := ⟨by rw [HGS.out]; simp [hpy]⟩
        clear hpy
        go_upto_region 7 with (fail)
        rw [← hg7, ← hW2]
        clear hg7 hW2 hrun hent
        go_wp2_with fail
        refine HPY.out.mono ?_
        rintro e2 w3 ⟨rfl, hb3⟩
        have HB3 := Aside0.mk hb3
        clear hb3
        go_wp2_with fail
        go_roundw
        case rel => exact ⟨js ++ [j], ⟨{
          it := ⟨_, (HB3.out.block r (Array.getElem?_eq_some_iff.1 HIT2.out.1).1).trans HIT2.out.1, HSN.out⟩
          mp := (HB3.out.block b (Array.getElem?_eq_some_iff.1 HIT2.out.2).1).trans HIT2.out.2
          nd := HJ1.out.1
          lt := HJ1.out.2
          row := by rw [HG1.out]; exact Kd.R_below HROW2.out HB3.out
          below := below_step HB2.out HB3.out }⟩⟩
        case measure => rw [HOLD.out, leftN_eq ((HB3.out.block r (Array.getElem?_eq_some_iff.1 HIT2.out.1).1).trans HIT2.out.1) ((HB3.out.block b (Array.getElem?_eq_some_iff.1 HIT2.out.2).1).trans HIT2.out.2)]; exact HMES.out
      | true =>
        rw [hpy] at HPY
        have HG1 : Aside0 (got M p (js ++ [j]) = got M p js ++ [k]) := ⟨by rw [HGS.out]; simp [hpy]⟩
        clear hpy
        go_upto_region 7 with (fail)
        rw [← hg7, ← hW2]
        clear hg7 hW2 hrun hent
        go_wp2_with fail
        refine HPY.out.mono ?_
        rintro e2 w3 ⟨rfl, hb3⟩
        have HIT3 : Aside0 (w3.heap[r]? = some (.mapIter (some b) clock (seen.push e.born) clock) ∧ w3.heap[b]? = some (.map es clock)) := ⟨(hb3.block r (Array.getElem?_eq_some_iff.1 HIT2.out.1).1).trans HIT2.out.1, (hb3.block b (Array.getElem?_eq_some_iff.1 HIT2.out.2).1).trans HIT2.out.2⟩
        have HB3 := Aside0.mk (below_step HB2.out hb3)
        have HROW3 := Aside0.mk (Kd.R_below HROW2.out hb3)
        clear hb3 y0 y1 y2 yf
        go_wp2_with ((with_reducible refine gate_builtin (b := .append) (xs := #[.tmp 23, .tmp 25]) rfl ?_); at_builtin; refine Kd.R_append (Kd.int .i64) (w0 := w) w.heap.size rfl (.tmp 23) (.tmp 25) 59 3 (.int .i64 0) 8 rfl Try.underlying59 info3 rfl (by decide) (by omega) (.slice A5 (got M p js).length c5) (got M p js) k [.int .i64 k] (fun _ => True) (fun _ => False) rfl rfl rfl (fun _ hk => hk.elim) (fun _ _ => trivial) HROW3.out HB3.out HB3.out.size (by have := HGL.out; omega) ?_; intro v7 w7 hr7 hb7 hg7 hat7; have H7 := Aside0.mk hr7; have H8 := Aside0.mk hb7; have HIT4 := Aside0.mk (And.intro ((hg7.block r (Array.getElem?_eq_some_iff.1 HIT3.out.1).1 (row_ne HROW3.out HIT3.out.1)).trans HIT3.out.1) ((hg7.block b (Array.getElem?_eq_some_iff.1 HIT3.out.2).1 (row_ne HROW3.out HIT3.out.2)).trans HIT3.out.2)); clear hr7 hb7 hg7 hat7)
        go_roundw
        case rel => exact ⟨js ++ [j], ⟨{
          it := ⟨_, HIT4.out.1, HSN.out⟩
          mp := HIT4.out.2
          nd := HJ1.out.1
          lt := HJ1.out.2
          row := by rw [HG1.out]; exact H7.out
          below := H8.out }⟩⟩
        case measure => rw [HOLD.out, leftN_eq HIT4.out.1 HIT4.out.2]; exact HMES.out
end Go.Proofs.Ytomhhbjebgghnaa.P
