/- What the claim on this statement wants of the text YtomhhbjebgghnaaEWCounts. Not trusted: Lean checks it. -/
import Derived.Test.YtomhhbjebgghnaaN3ENet8
import Derived.Test.YtomhhbjebgghnaaN3NetRds
import Derived.Test.YtomhhbjebgghnaaN3PxA4
import Derived.Test.YtomhhbjebgghnaaN3EWNil
import Derived.IntWalk
namespace Go.Proofs.Ytomhhbjebgghnaa.P
open Go.RowKit Go.Proofs.YtomhhbjebgghnaaW.PrintWords Go.Proofs.YtomhhbjebgghnaaW.PrintLast Go.Proofs.YtomhhbjebgghnaaW.PrintMore
open Go.Proofs.Ytomhhbjebgghnaa.Emap
set_option linter.unusedVariables false
set_option linter.unusedSimpArgs false
def z40 : S40 := ⟨0, 0, zG⟩
theorem at40 {w : World} {A : Option Addr} {n : Nat} {xs : List S40} (h : Kd.C k40 w A n xs) (i : Nat) (h1 : i < n) (hx : i < xs.length) : ∃ ad , A = some ad ∧ w.cell? (ad.add (i * 5)) = some (.int .i64 xs[i].f0) ∧ w.cell? ⟨(ad.add (i * 5)).block, (ad.add (i * 5)).off + 1, none⟩ = some (.int .i64 xs[i].f1) ∧ w.cell? ⟨(ad.add (i * 5)).block, (ad.add (i * 5)).off + 2, none⟩ = some (.int .i64 xs[i].f2.f0) ∧ w.cell? ⟨(ad.add (i * 5)).block, (ad.add (i * 5)).off + 3, none⟩ = some (.int .i64 xs[i].f2.f1) ∧ w.cell? ⟨(ad.add (i * 5)).block, (ad.add (i * 5)).off + 4, none⟩ = some (.string xs[i].f2.f2) := by
  obtain ⟨ad, c, e, _, hK, hc0⟩ := Kd.C_get h z40 (i : Int) (by omega) (by omega)
  have hc : ∀ j u, c[j]? = some u → w.cell? (ad.add (i * 5 + j)) = some u := hc0
  have hg : xs.getD (i : Int).toNat z40 = xs[i] := by simp [hx]
  rw [hg] at hK
  obtain rfl := k40_open hK
  exact ⟨ad, e, hc 0 _ rfl, by rw [← add_field _ _ 1 (by omega)]; exact hc 1 _ rfl, by rw [← add_field _ _ 2 (by omega)]; exact hc 2 _ rfl, by rw [← add_field _ _ 3 (by omega)]; exact hc 3 _ rfl, by rw [← add_field _ _ 4 (by omega)]; exact hc 4 _ rfl⟩
theorem info29 : (Try.prog.info? 29).map (fun i => (i.zero, i.size, i.bytes)) = some (some (.agg #[.int .i64 0, .int .i64 0, .string ⟨#[]⟩]), 3, 32) := by kernel_rfl
/-- A row of datagrams is none of the net's blocks. -/
theorem row_near {w w' : World} {g b base : Nat} {room last : Int} {M : List (Int × S29)} {v : Value} {xs : List S29} (h : Kd.R k29 29 w base (fun _ => True) v xs) (hn : NetAt w g b room last M) (hr : Near w w' g b) : Kd.R k29 29 w' base (fun _ => True) v xs := by
  obtain ⟨es, clock, hm, _⟩ := hn.map
  refine Kd.R_mono (Kd.R_step (Kd.R_bound h) (fun k hk hlt => hr.block k hlt (fun e => ?_) (fun e => ?_))) (fun _ _ => trivial)
  · subst e
    obtain ⟨_, _, _, q, hmem, cells, hc⟩ := hk
    rw [hn.box] at hc; cases hc
    exact absurd hmem (by decide)
  · subst e
    obtain ⟨_, _, _, q, _, cells, hc⟩ := hk
    rw [hm] at hc; cases hc
theorem net_row {w w' : World} {g b base : Nat} {room last : Int} {M : List (Int × S29)} {v : Value} {xs : List S29} (h : Kd.R k29 29 w base (fun _ => True) v xs) (hn : NetAt w g b room last M) (hg : w.grownBy w' v.ownBlock) : NetAt w' g b room last M := by
  obtain ⟨es, clock, hm, he⟩ := hn.map
  have hgn : some g ≠ v.ownBlock := fun e' => by
    obtain ⟨inner, hw⟩ := Kd.R_own h
    obtain ⟨cells, hc⟩ := own_typed hw g e'.symm
    rw [hn.box] at hc; cases hc
  exact ⟨(hg.block g hn.lt.1 hgn).trans hn.box, es, clock, (hg.block b hn.lt.2 (row_ne h hm)).trans hm, he⟩
theorem cut_len {M : List (Int × S29)} (h : (M.map (·.1)).Pairwise (· < ·)) {id : Int} {z : S29} (hz : (id, z) ∈ M) : (cut M id).length + 1 = M.length := by
  induction M with
  | nil => cases hz
  | cons p M ih =>
    rw [List.map_cons, List.pairwise_cons] at h
    unfold cut at ih ⊢
    by_cases hp : p.1 = id
    · rw [List.filter_cons_of_neg (by simp [hp]), List.filter_eq_self.2 (fun q hq => by
        have := h.1 q.1 (List.mem_map.2 ⟨q, hq, rfl⟩)
        simp; omega), List.length_cons]
    · rw [List.filter_cons_of_pos (by simp [hp]), List.length_cons, List.length_cons]
      rcases List.mem_cons.1 hz with e | hz'
      · rw [← e] at hp; exact absurd rfl hp
      · rw [ih h.2 hz']
theorem cut_sub {M : List (Int × S29)} {id : Int} {p : Int × S29} (h : p ∈ cut M id) : p ∈ M := (List.mem_filter.1 h).1
theorem among_true (y : S29) (l : List S29) (hl : l.length ≤ 1000) : ∀ (d i : Nat), i + d = l.length → y ∈ l.drop i → mosaiclaw21_among.l0 (d + 1) l (i : Int) y.f0 y.f1 y.f2 = some true
  | 0, i, h, hy => by
    rw [List.drop_eq_nil_of_le (by omega)] at hy; cases hy
  | d + 1, i, h, hy => by
    have hi : i < l.length := by omega
    unfold mosaiclaw21_among.l0
    rw [if_pos (by omega), if_pos (by omega)]
    have hr : rd_T29 l (i : Int) = l[i] := by simp [rd_T29, hi]
    rw [hr]
    rw [List.drop_eq_getElem_cons hi] at hy
    by_cases he : (l[i].f0 == y.f0 && (l[i].f1 == y.f1 && (l[i].f2.toList == y.f2.toList))) = true
    · rw [if_pos he]
    · rw [if_neg he, IntWalk.wrap64_in _ (by omega)]
      refine among_true y l hl d (i + 1) (by omega) ?_
      rcases List.mem_cons.1 hy with e | h'
      · exact absurd (by rw [← e]; simp) he
      · exact h'
theorem among_calls (y : S29) (l : List S29) (hl : l.length ≤ 1000) (hy : y ∈ l) (A : Option Addr) (c : Nat) (w : World) (hr : Kd.C k29 w A l.length l) (hc : l.length ≤ c) :
    Calls Try.prog 15 #[.slice A l.length c, .agg #[.int .i64 y.f0, .int .i64 y.f1, .string y.f2]] w fun e w' => e = .returned (.bool true) ∧ Below w.heap.size w w' :=
  mosaiclaw21_among.calls (l.length + 1) A c l y.f0 y.f1 y.f2 true w hr hc (among_true y l hl l.length 0 (by omega) hy)
/-- What the round holds: how many were put and gone, the net, the datagrams that were sent. -/
structure CntW (w wr : World) (g b k : Nat) (put gone last : Int) (M : List (Int × S29)) (v6 : Value) (sent : List S29) : Prop where
  sum : put = gone + M.length
  lo : 0 ≤ gone
  hi : put ≤ k
  few : M.length ≤ 40
  net : NetAt wr g b 40 last M
  ok : NetOk last M
  last : last ≤ k
  row : Kd.R k29 29 wr w.heap.size (fun _ => True) v6 sent
  len : sent.length ≤ k
  mem : ∀ p ∈ M, p.2 ∈ sent
  below : Below w.heap.size w wr
variable {w wr : World} {g b k : Nat} {put gone last : Int} {M : List (Int × S29)} {v6 : Value} {sent : List S29}
theorem CntW.near {w1 : World} (h : CntW w wr g b k put gone last M v6 sent) (hg : w.heap.size ≤ g) (hb : w.heap.size ≤ b) (hn : NetAt w1 g b 40 last M) (hr : Near wr w1 g b) : CntW w w1 g b k put gone last M v6 sent :=
  ⟨h.sum, h.lo, h.hi, h.few, hn, h.ok, h.last, row_near h.row h.net hr, h.len, h.mem, hr.below h.below hg hb⟩
theorem CntW.later {w1 : World} (h : CntW w wr g b k put gone last M v6 sent) (hg : w.heap.size ≤ g) (hb : w.heap.size ≤ b) (hB : Below wr.heap.size wr w1) : CntW w w1 g b k put gone last M v6 sent :=
  h.near hg hb (h.net.later hB) (Near.of hB)
theorem CntW.next (h : CntW w wr g b k put gone last M v6 sent) : CntW w wr g b (k + 1) put gone last M v6 sent :=
  ⟨h.sum, h.lo, by have := h.hi; omega, h.few, h.net, h.ok, by have := h.last; omega, h.row, by have := h.len; omega, h.mem, h.below⟩
theorem CntW.twice {w1 : World} (h : CntW w wr g b k put gone last M v6 sent) (hg : w.heap.size ≤ g) (hb : w.heap.size ≤ b) (hk : k < 1000) (hf : M.length < 40) {x : S29} (hx : x ∈ sent) (hn : NetAt w1 g b 40 (last + 1) (M ++ [(last + 1, x)])) (hr : Near wr w1 g b) :
    CntW w w1 g b (k + 1) (put + 1) gone (last + 1) (M ++ [(last + 1, x)]) v6 sent :=
  ⟨by rw [List.length_append]; have := h.sum; simp; omega, h.lo, by have := h.hi; omega, by rw [List.length_append]; simp; omega, hn, h.ok.put (by have := h.last; omega) x, by have := h.last; omega, row_near h.row h.net hr, by have := h.len; omega, fun p hp => by
    rcases List.mem_append.1 hp with hp | hp
    · exact h.mem p hp
    · rw [List.mem_singleton.1 hp]; exact hx, hr.below h.below hg hb⟩
theorem CntW.cut {w1 : World} (h : CntW w wr g b k put gone last M v6 sent) (hg : w.heap.size ≤ g) (hb : w.heap.size ≤ b) {id : Int} {z : S29} (hz : (id, z) ∈ M) (hn : NetAt w1 g b 40 last (P.cut M id)) (hr : Near wr w1 g b) :
    CntW w w1 g b (k + 1) put (gone + 1) last (P.cut M id) v6 sent := by
  have hl := cut_len h.ok.up hz
  exact ⟨by have := h.sum; omega, by have := h.lo; omega, by have := h.hi; omega, by have := h.few; omega, hn, h.ok.cut id, by have := h.last; omega, row_near h.row h.net hr, by have := h.len; omega, fun p hp => h.mem p (cut_sub hp), hr.below h.below hg hb⟩
theorem CntW.sub (h : CntW w wr g b k put gone last M v6 sent) (hk : k ≤ 1000) : wrap64 (put - gone) = (M.length : Int) := by
  have := h.sum; have := h.lo; have := h.few
  rw [show put - gone = M.length by omega]
  exact IntWalk.wrap64_in _ (by omega)
theorem CntW.more {w1 : World} {v7 : Value} (h : CntW w wr g b k put gone last M v6 sent) (hf : M.length < 40) (x : S29) (hn : NetAt w1 g b 40 (last + 1) (M ++ [(last + 1, x)])) (hr : Kd.R k29 29 w1 w.heap.size (fun _ => True) v7 (sent ++ [x])) (hB : Below w.heap.size w w1) (hk : k < 1000) :
    CntW w w1 g b (k + 1) (put + 1) gone (last + 1) (M ++ [(last + 1, x)]) v7 (sent ++ [x]) :=
  ⟨by rw [List.length_append]; have := h.sum; simp; omega, h.lo, by have := h.hi; omega, by rw [List.length_append]; simp; omega, hn, h.ok.put (by have := h.last; omega) x, by have := h.last; omega, hr, by rw [List.length_append]; have := h.len; simp; omega, fun p hp => by
    rcases List.mem_append.1 hp with hp | hp
    · exact List.mem_append.2 (.inl (h.mem p hp))
    · rw [List.mem_singleton.1 hp]; simp, hB⟩
theorem nthV_mem {M : List (Int × S29)} (i : Int) : nthV M i = 0 ∨ ∃ x : S29, (nthV M i, x) ∈ M := by
  unfold nthV
  by_cases h : M.length = 0 ∨ i < 0
  · rw [if_pos h]; exact .inl rfl
  · rw [if_neg h]
    have h1 : (0 : Int) < M.length := by omega
    have h2 := Int.emod_nonneg i (show (M.length : Int) ≠ 0 by omega)
    have h3 := Int.emod_lt_of_pos i h1
    have hj : (i % (M.length : Int)).toNat < M.length := by omega
    refine .inr ⟨(M[(i % (M.length : Int)).toNat]).2, ?_⟩
    have e : rd (M.map (·.1)) (i % (M.length : Int)) = (M[(i % (M.length : Int)).toNat]).1 := by
      unfold rd
      simp [hj]
    rw [e]
    exact List.getElem_mem hj
theorem nthV_good {last : Int} {M : List (Int × S29)} (ho : NetOk last M) (i : Int) : kGood (nthV M i) := by
  rcases nthV_mem (M := M) i with h | ⟨x, h⟩
  · rw [h]; exact kgood (by omega) (by omega)
  · have := ho.le _ h
    have := ho.hi
    exact kgood (by omega) (by omega)
set_option maxHeartbeats 4000000 in
set_option maxRecDepth 100000 in
theorem netCounts_calls (l : List S40) (A : Option Addr) (c : Nat) (w : World) (hr : Kd.C k40 w A l.length l) (hc : l.length ≤ c) (hq : ∀ x ∈ l, q40 x) :
    Calls Try.prog 4 #[.slice A l.length c] w fun e w' => e = .returned (.bool true) ∧ Below w.heap.size w w' := by
  have HA := Aside0.mk awake_calls
  have HRL := Aside0.mk hr
  have HQL := Aside0.mk hq
  have hll : l.length ≤ 9223372036854775807 := hr.2.1
  clear hr hq hc
  have HN := Aside0.mk (new_calls 40 (by omega) (by omega))
  go_enter Try.func4, Try.ntmps4
  go_wp2_with fail
  refine (HN.out _).mono ?_
  rintro e w1 ⟨g, b, rfl, hg, hb, hn, hB⟩
  have HG := Aside0.mk (And.intro hg hb)
  have HN1 := Aside0.mk hn
  have HB1 := Aside0.mk hB
  clear hg hb hn hB HN
  go_wp2_with fail
  refine (HA.out _).mono ?_
  rintro e w2 ⟨rfl, hb⟩
  have HC0 : Aside0 (CntW w w2 g b 0 0 0 0 [] (.slice none 0 0) []) := ⟨{
    sum := rfl
    lo := Int.le_refl _
    hi := Int.le_refl _
    few := by simp
    net := HN1.out.later hb
    ok := NetOk.nil
    last := Int.le_refl _
    row := Kd.R_nil _ _ _ _ _
    len := by simp
    mem := fun _ h => by cases h
    below := below_step HB1.out hb }⟩
  clear hb HN1 HB1
  go_wp2_with fail
  go_loopw [4, 5, 6, 7] (fun v4 v5 v6 v7 wr => ∃ (k : Nat) (put gone last : Int) (M : List (Int × S29)) (sent : List S29), k ≤ 60 ∧ v4 = .int .i64 put ∧ v5 = .int .i64 gone ∧ v7 = .int .i64 k ∧ Aside0 (CntW w wr g b k put gone last M v6 sent)) (fun _ _ _ v7 _ => 61 - (intOf v7).toNat)
  case atStart => exact ⟨0, 0, 0, 0, [], [], by omega, rfl, rfl, rfl, HC0⟩
  case round =>
    obtain ⟨k, put, gone, last, M, sent, hk60, rfl, rfl, rfl, HCk⟩ := hrel
    clear HC0
    have HK := Aside0.mk hk60
    obtain ⟨A6, c6, e6⟩ := Kd.R_slice HCk.out.row
    subst e6
    have HP1 : Aside0 (0 ≤ put) := ⟨by have := HCk.out.sum; have := HCk.out.lo; omega⟩
    have HP2 : Aside0 (put ≤ 100) := ⟨by have := HCk.out.hi; omega⟩
    have HQ1 : Aside0 (0 ≤ gone) := ⟨HCk.out.lo⟩
    have HQ2 : Aside0 (gone ≤ 100) := ⟨by have := HCk.out.hi; have := HCk.out.sum; omega⟩
    by_cases hlt : k < l.length
    · have hkl : (k : Int) < (l.length : Int) := by omega
      by_cases hk : k < 60
      · have hk6 : (k : Int) < 60 := by omega
        obtain ⟨ad, rfl, d0, d1, d2, d3, d4⟩ := at40 HRL.out k hlt hlt
        have hq := HQL.out _ (List.getElem_mem hlt)
        obtain ⟨⟨kd, id, y⟩, hx⟩ : ∃ x, x = l[k] := ⟨_, rfl⟩
        rw [← hx] at d0 d1 d2 d3 d4 hq
        clear hx
        have HID : Aside0 (kGood id) := ⟨hq.2.1⟩
        have HY : Aside0 (y.f2.size ≤ 9223372036854775807) := ⟨by have := hq.2.2.2.2; unfold maxLen at this; omega⟩
        replace d0 := (HCk.out.below.cell (World.block_lt_of_cell? w _ d0)).trans d0
        replace d1 := (HCk.out.below.cell (World.block_lt_of_cell? w _ d1)).trans d1
        replace d2 := (HCk.out.below.cell (World.block_lt_of_cell? w _ d2)).trans d2
        replace d3 := (HCk.out.below.cell (World.block_lt_of_cell? w _ d3)).trans d3
        replace d4 := (HCk.out.below.cell (World.block_lt_of_cell? w _ d4)).trans d4
        obtain ⟨W1, hW1⟩ : ∃ W1, W1 = wr.alloc (.cells #[.int .i64 kd, .int .i64 id, .int .i64 y.f0, .int .i64 y.f1, .string y.f2] 40) := ⟨_, rfl⟩
        obtain ⟨g8, hg8⟩ : ∃ g8, g8 = wr.heap.size := ⟨_, rfl⟩
        have HX := Aside0.mk (show W1.heap[g8]? = some (.cells #[.int .i64 kd, .int .i64 id, .int .i64 y.f0, .int .i64 y.f1, .string y.f2] 40 (0, 0)) by rw [hW1, hg8]; exact heap_alloc_new _ _)
        have HC1 := Aside0.mk (HCk.out.later HG.out.1 HG.out.2 (show Below wr.heap.size wr W1 by rw [hW1]; exact below_alloc (Below.refl _ wr) _))
        have HNE : Aside0 (g8 ≠ g ∧ g8 ≠ b) := ⟨by have := HCk.out.net.lt; omega⟩
        go_upto_region 10 with (fail)
        rw [← hg8, ← hW1]
        clear hg8 hW1 d0 d1 d2 d3 d4 hq HCk hlt hk
        obtain ⟨c0, c1, c2, c3, c4⟩ := cell5 HX.out
        by_cases hy : y.f2.size ≤ 500
        · have hy' : ¬ (500 : Int) < y.f2.size := by omega
          clear hy
          by_cases h0 : kd = 0
          · subst h0
            -- Send
            cases hs : sendB y with
            | false =>
              have HS := Aside0.mk (send_not HC1.out.net y HY.out hs)
              rw [show gV y = .agg #[.int .i64 y.f0, .int .i64 y.f1, .string y.f2] from rfl] at HS
              clear hs
              go_wp2_with fail
              refine HS.out.mono ?_
              rintro e w3 ⟨rfl, hn, hr⟩
              have HC := Aside0.mk ((HC1.out.near HG.out.1 HG.out.2 hn hr).next)
              obtain ⟨M2, rfl⟩ : ∃ M2, M2 = M := ⟨_, rfl⟩
              clear hn hr HS c0 c1 c2 c3 c4
              have hp1 : 0 ≤ put := HP1.out
              have hp2 : put ≤ 100 := HP2.out
              have hq1 : 0 ≤ gone := HQ1.out
              have hq2 : gone ≤ 100 := HQ2.out
              have HLE := Aside0.mk (len_calls g b 40 _ _ w3 HC.out.net)
              have hs1 := HC.out.sub (by have := HK.out; omega)
              have hs2 : IntKind.i64.wrap (put - gone) = (M2.length : Int) := by rw [IntWalk.i64_left]; exact hs1
              have hf2 : ¬ (40 : Int) < (M2.length : Int) := by have := HC.out.few; omega
              go_wp2_with fail
              refine HLE.out.mono ?_
              rintro e wl ⟨rfl, rfl⟩
              go_wp2_with fail
              refine HLE.out.mono ?_
              rintro e wl ⟨rfl, rfl⟩
              go_wp2_with fail
              go_roundw
              case rel => exact ⟨k + 1, put, gone, _, M2, _, by have := HK.out; omega, rfl, rfl, by go_num, HC⟩
              case measure => simp [intOf]; omega
            | true =>
              by_cases hf : M.length < 40
              · have HF := Aside0.mk hf
                have HS := Aside0.mk (send_room HC1.out.net HC1.out.ok y hs (by omega))
                rw [show gV y = .agg #[.int .i64 y.f0, .int .i64 y.f1, .string y.f2] from rfl] at HS
                clear hs hf
                go_wp2_with fail
                refine HS.out.mono ?_
                rintro e w3 ⟨rfl, hn, hr⟩
                have HX3 := Aside0.mk ((hr.block g8 (Array.getElem?_eq_some_iff.1 HX.out).1 HNE.out.1 HNE.out.2).trans HX.out)
                have HR3 := Aside0.mk (row_near HC1.out.row HC1.out.net hr)
                have HB3 := Aside0.mk (hr.below HC1.out.below HG.out.1 HG.out.2)
                have HN3 := Aside0.mk hn
                clear hn hr HS c0 c1 c2 c3 c4
                obtain ⟨c0, c1, c2, c3, c4⟩ := cell5 HX3.out
                have hp1 : 0 ≤ put := HP1.out
                have hp2 : put ≤ 100 := HP2.out
                have hq1 : 0 ≤ gone := HQ1.out
                have hq2 : gone ≤ 100 := HQ2.out
                go_wp2_with ((with_reducible refine gate_builtin (b := .append) (xs := #[.tmp 54, .tmp 57]) rfl ?_); at_builtin; refine Kd.R_append k29 (w0 := w) w.heap.size rfl (.tmp 54) (.tmp 57) 38 29 (.agg #[.int .i64 0, .int .i64 0, .string ⟨#[]⟩]) 32 rfl Try.underlying38 info29 rfl (by decide) (by omega) (.slice A6 sent.length c6) sent y [.int .i64 y.f0, .int .i64 y.f1, .string y.f2] (fun _ => True) (fun _ => False) rfl rfl (k29_mkM _ _ _ _) (fun _ hk => hk.elim) (fun _ _ => trivial) HR3.out HB3.out HB3.out.size (by have := HC1.out.len; have := HK.out; omega) ?_; intro v7 w7 hr7 hb7 hg7 hat7; have H7 := Aside0.mk hr7; have H8 := Aside0.mk hb7; have HN7 := Aside0.mk (net_row HR3.out HN3.out hg7); clear hr7 hb7 hg7 hat7)
                have HC := Aside0.mk (HC1.out.more HF.out y HN7.out H7.out H8.out (by have := HK.out; omega))
                obtain ⟨M2, hM2⟩ : ∃ M2, M2 = M ++ [(last + 1, y)] := ⟨_, rfl⟩
                rw [← hM2] at HC
                clear hM2
                clear HN3 HR3 HX3 HN7 c0 c1 c2 c3 c4
                have HLE := Aside0.mk (len_calls g b 40 _ _ _ HC.out.net)
                have hs1 := HC.out.sub (by have := HK.out; omega)
                have hs2 : IntKind.i64.wrap ((put + 1) - gone) = (M2.length : Int) := by rw [IntWalk.i64_left]; exact hs1
                have hf2 : ¬ (40 : Int) < (M2.length : Int) := by have := HC.out.few; omega
                go_wp2_with fail
                refine HLE.out.mono ?_
                rintro e wl ⟨rfl, rfl⟩
                go_wp2_with fail
                refine HLE.out.mono ?_
                rintro e wl ⟨rfl, rfl⟩
                go_wp2_with fail
                go_roundw
                case rel => exact ⟨k + 1, (put + 1), gone, _, M2, _, by have := HK.out; omega, rfl, rfl, by go_num, HC⟩
                case measure => simp [intOf]; omega
              · have HS := Aside0.mk (send_full HC1.out.net y hs (by omega))
                rw [show gV y = .agg #[.int .i64 y.f0, .int .i64 y.f1, .string y.f2] from rfl] at HS
                clear hs hf
                go_wp2_with fail
                refine HS.out.mono ?_
                rintro e w3 ⟨rfl, hn, hr⟩
                have HC := Aside0.mk ((HC1.out.near HG.out.1 HG.out.2 hn hr).next)
                obtain ⟨M2, rfl⟩ : ∃ M2, M2 = M := ⟨_, rfl⟩
                clear hn hr HS c0 c1 c2 c3 c4
                have hp1 : 0 ≤ put := HP1.out
                have hp2 : put ≤ 100 := HP2.out
                have hq1 : 0 ≤ gone := HQ1.out
                have hq2 : gone ≤ 100 := HQ2.out
                have HLE := Aside0.mk (len_calls g b 40 _ _ w3 HC.out.net)
                have hs1 := HC.out.sub (by have := HK.out; omega)
                have hs2 : IntKind.i64.wrap (put - gone) = (M2.length : Int) := by rw [IntWalk.i64_left]; exact hs1
                have hf2 : ¬ (40 : Int) < (M2.length : Int) := by have := HC.out.few; omega
                go_wp2_with fail
                refine HLE.out.mono ?_
                rintro e wl ⟨rfl, rfl⟩
                go_wp2_with fail
                refine HLE.out.mono ?_
                rintro e wl ⟨rfl, rfl⟩
                go_wp2_with fail
                go_roundw
                case rel => exact ⟨k + 1, put, gone, _, M2, _, by have := HK.out; omega, rfl, rfl, by go_num, HC⟩
                case measure => simp [intOf]; omega
          · have hb0 : (kd == 0) = false := beq_eq_false_iff_ne.2 h0
            by_cases h1 : kd = 1
            · subst h1
              rcases Classical.em (∃ z, (id, z) ∈ M) with hz | hz
              · obtain ⟨z, hz⟩ := hz
                have HZ := Aside0.mk hz
                have HS := Aside0.mk (take_some g b 40 last M (id) HID.out z _ HC1.out.net hz)
                rw [show gV z = .agg #[.int .i64 z.f0, .int .i64 z.f1, .string z.f2] from rfl] at HS
                clear hz
                go_wp2_with fail
                refine HS.out.mono ?_
                rintro e w3 ⟨rfl, hn, hr⟩
                have HC := Aside0.mk (HC1.out.cut HG.out.1 HG.out.2 HZ.out hn hr)
                clear hn hr HS c0 c1 c2 c3 c4
                obtain ⟨W4, hW4⟩ : ∃ W4, W4 = w3.alloc (.cells #[.int .i64 z.f0, .int .i64 z.f1, .string z.f2] 29) := ⟨_, rfl⟩
                obtain ⟨g11, hg11⟩ : ∃ g11, g11 = w3.heap.size := ⟨_, rfl⟩
                obtain ⟨z0, z1, z2, -⟩ := cell3n (show W4.heap[g11]? = some (.cells #[.int .i64 z.f0, .int .i64 z.f1, .string z.f2] 29 (0, 0)) by rw [hW4, hg11]; exact heap_alloc_new _ _)
                replace HC := Aside0.mk (HC.out.later HG.out.1 HG.out.2 (show Below w3.heap.size w3 W4 by rw [hW4]; exact below_alloc (Below.refl _ w3) _))
                have HAM := Aside0.mk (among_calls z sent (by have := HC.out.len; have := HK.out; omega) (HC1.out.mem _ HZ.out) A6 c6 W4 (Kd.R_reads' HC.out.row).2.2 (Kd.R_reads' HC.out.row).2.1)
                obtain ⟨M2, hM2⟩ : ∃ M2, M2 = P.cut M (id) := ⟨_, rfl⟩
                rw [← hM2] at HC
                clear hM2
                have hp1 : 0 ≤ put := HP1.out
                have hp2 : put ≤ 100 := HP2.out
                have hq1 : 0 ≤ gone := HQ1.out
                have hq2 : gone ≤ 100 := HQ2.out
                go_upto_region 24 with (fail)
                rw [← hg11, ← hW4]
                clear hg11 hW4
                go_wp2_with fail
                refine HAM.out.mono ?_
                rintro e w5 ⟨rfl, hb⟩
                replace HC := Aside0.mk (HC.out.later HG.out.1 HG.out.2 hb)
                clear hb HAM z0 z1 z2
                have HLE := Aside0.mk (len_calls g b 40 _ _ w5 HC.out.net)
                have hs1 := HC.out.sub (by have := HK.out; omega)
                have hs2 : IntKind.i64.wrap (put - (gone + 1)) = (M2.length : Int) := by rw [IntWalk.i64_left]; exact hs1
                have hf2 : ¬ (40 : Int) < (M2.length : Int) := by have := HC.out.few; omega
                go_wp2_with fail
                refine HLE.out.mono ?_
                rintro e wl ⟨rfl, rfl⟩
                go_wp2_with fail
                refine HLE.out.mono ?_
                rintro e wl ⟨rfl, rfl⟩
                go_wp2_with fail
                go_roundw
                case rel => exact ⟨k + 1, put, (gone + 1), _, M2, _, by have := HK.out; omega, rfl, rfl, by go_num, HC⟩
                case measure => simp [intOf]; omega
              · have HS := Aside0.mk (take_not HC1.out.net (id) HID.out (fun p hp e => hz ⟨p.2, by rw [← e]; exact hp⟩))
                rw [show gV zG = .agg #[.int .i64 0, .int .i64 0, .string ⟨#[]⟩] from rfl] at HS
                clear hz
                go_wp2_with fail
                refine HS.out.mono ?_
                rintro e w3 ⟨rfl, hn, hr⟩
                have HC := Aside0.mk (((HC1.out.near HG.out.1 HG.out.2 hn hr).next).later HG.out.1 HG.out.2 (below_alloc (Below.refl _ w3) (.cells #[.int .i64 0, .int .i64 0, .string ⟨#[]⟩] 29)))
                obtain ⟨M2, rfl⟩ : ∃ M2, M2 = M := ⟨_, rfl⟩
                clear hn hr HS c0 c1 c2 c3 c4
                have hp1 : 0 ≤ put := HP1.out
                have hp2 : put ≤ 100 := HP2.out
                have hq1 : 0 ≤ gone := HQ1.out
                have hq2 : gone ≤ 100 := HQ2.out
                have HLE := Aside0.mk (len_calls g b 40 _ _ _ HC.out.net)
                have hs1 := HC.out.sub (by have := HK.out; omega)
                have hs2 : IntKind.i64.wrap (put - gone) = (M2.length : Int) := by rw [IntWalk.i64_left]; exact hs1
                have hf2 : ¬ (40 : Int) < (M2.length : Int) := by have := HC.out.few; omega
                go_wp2_with fail
                refine HLE.out.mono ?_
                rintro e wl ⟨rfl, rfl⟩
                go_wp2_with fail
                refine HLE.out.mono ?_
                rintro e wl ⟨rfl, rfl⟩
                go_wp2_with fail
                go_roundw
                case rel => exact ⟨k + 1, put, gone, _, M2, _, by have := HK.out; omega, rfl, rfl, by go_num, HC⟩
                case measure => simp [intOf]; omega
            · have hb1 : (kd == 1) = false := beq_eq_false_iff_ne.2 h1
              by_cases h4 : kd = 4
              · subst h4
                have HNT := Aside0.mk (nth_calls g b 40 last M id _ HC1.out.net (by have := HC1.out.few; omega) HC1.out.ok.up)
                obtain ⟨nid, hnid⟩ : ∃ nid, nid = nthV M id := ⟨_, rfl⟩
                have HGN : Aside0 (kGood nid) := ⟨by rw [hnid]; exact nthV_good HC1.out.ok id⟩
                rw [← hnid] at HNT
                clear hnid
                go_wp2_with fail
                refine HNT.out.mono ?_
                rintro e w2 ⟨rfl, hb⟩
                have HX2 := Aside0.mk ((hb.block g8 (Array.getElem?_eq_some_iff.1 HX.out).1).trans HX.out)
                have HC2 := Aside0.mk (HC1.out.later HG.out.1 HG.out.2 hb)
                clear HC1 HX
                have HC1 := HC2
                have HX := HX2
                clear HC2 HX2 hb HNT c0 c1 c2 c3 c4
                obtain ⟨c0, c1, c2, c3, c4⟩ := cell5 HX.out
                rcases Classical.em (∃ z, (nid, z) ∈ M) with hz | hz
                · obtain ⟨z, hz⟩ := hz
                  have HZ := Aside0.mk hz
                  have HS := Aside0.mk (take_some g b 40 last M (nid) HGN.out z _ HC1.out.net hz)
                  rw [show gV z = .agg #[.int .i64 z.f0, .int .i64 z.f1, .string z.f2] from rfl] at HS
                  clear hz
                  go_wp2_with fail
                  refine HS.out.mono ?_
                  rintro e w3 ⟨rfl, hn, hr⟩
                  have HC := Aside0.mk (HC1.out.cut HG.out.1 HG.out.2 HZ.out hn hr)
                  clear hn hr HS c0 c1 c2 c3 c4
                  obtain ⟨W4, hW4⟩ : ∃ W4, W4 = w3.alloc (.cells #[.int .i64 z.f0, .int .i64 z.f1, .string z.f2] 29) := ⟨_, rfl⟩
                  obtain ⟨g11, hg11⟩ : ∃ g11, g11 = w3.heap.size := ⟨_, rfl⟩
                  obtain ⟨z0, z1, z2, -⟩ := cell3n (show W4.heap[g11]? = some (.cells #[.int .i64 z.f0, .int .i64 z.f1, .string z.f2] 29 (0, 0)) by rw [hW4, hg11]; exact heap_alloc_new _ _)
                  replace HC := Aside0.mk (HC.out.later HG.out.1 HG.out.2 (show Below w3.heap.size w3 W4 by rw [hW4]; exact below_alloc (Below.refl _ w3) _))
                  have HAM := Aside0.mk (among_calls z sent (by have := HC.out.len; have := HK.out; omega) (HC1.out.mem _ HZ.out) A6 c6 W4 (Kd.R_reads' HC.out.row).2.2 (Kd.R_reads' HC.out.row).2.1)
                  obtain ⟨M2, hM2⟩ : ∃ M2, M2 = P.cut M (nid) := ⟨_, rfl⟩
                  rw [← hM2] at HC
                  clear hM2
                  have hp1 : 0 ≤ put := HP1.out
                  have hp2 : put ≤ 100 := HP2.out
                  have hq1 : 0 ≤ gone := HQ1.out
                  have hq2 : gone ≤ 100 := HQ2.out
                  go_upto_region 24 with (fail)
                  rw [← hg11, ← hW4]
                  clear hg11 hW4
                  go_wp2_with fail
                  refine HAM.out.mono ?_
                  rintro e w5 ⟨rfl, hb⟩
                  replace HC := Aside0.mk (HC.out.later HG.out.1 HG.out.2 hb)
                  clear hb HAM z0 z1 z2
                  have HLE := Aside0.mk (len_calls g b 40 _ _ w5 HC.out.net)
                  have hs1 := HC.out.sub (by have := HK.out; omega)
                  have hs2 : IntKind.i64.wrap (put - (gone + 1)) = (M2.length : Int) := by rw [IntWalk.i64_left]; exact hs1
                  have hf2 : ¬ (40 : Int) < (M2.length : Int) := by have := HC.out.few; omega
                  go_wp2_with fail
                  refine HLE.out.mono ?_
                  rintro e wl ⟨rfl, rfl⟩
                  go_wp2_with fail
                  refine HLE.out.mono ?_
                  rintro e wl ⟨rfl, rfl⟩
                  go_wp2_with fail
                  go_roundw
                  case rel => exact ⟨k + 1, put, (gone + 1), _, M2, _, by have := HK.out; omega, rfl, rfl, by go_num, HC⟩
                  case measure => simp [intOf]; omega
                · have HS := Aside0.mk (take_not HC1.out.net (nid) HGN.out (fun p hp e => hz ⟨p.2, by rw [← e]; exact hp⟩))
                  rw [show gV zG = .agg #[.int .i64 0, .int .i64 0, .string ⟨#[]⟩] from rfl] at HS
                  clear hz
                  go_wp2_with fail
                  refine HS.out.mono ?_
                  rintro e w3 ⟨rfl, hn, hr⟩
                  have HC := Aside0.mk (((HC1.out.near HG.out.1 HG.out.2 hn hr).next).later HG.out.1 HG.out.2 (below_alloc (Below.refl _ w3) (.cells #[.int .i64 0, .int .i64 0, .string ⟨#[]⟩] 29)))
                  obtain ⟨M2, rfl⟩ : ∃ M2, M2 = M := ⟨_, rfl⟩
                  clear hn hr HS c0 c1 c2 c3 c4
                  have hp1 : 0 ≤ put := HP1.out
                  have hp2 : put ≤ 100 := HP2.out
                  have hq1 : 0 ≤ gone := HQ1.out
                  have hq2 : gone ≤ 100 := HQ2.out
                  have HLE := Aside0.mk (len_calls g b 40 _ _ _ HC.out.net)
                  have hs1 := HC.out.sub (by have := HK.out; omega)
                  have hs2 : IntKind.i64.wrap (put - gone) = (M2.length : Int) := by rw [IntWalk.i64_left]; exact hs1
                  have hf2 : ¬ (40 : Int) < (M2.length : Int) := by have := HC.out.few; omega
                  go_wp2_with fail
                  refine HLE.out.mono ?_
                  rintro e wl ⟨rfl, rfl⟩
                  go_wp2_with fail
                  refine HLE.out.mono ?_
                  rintro e wl ⟨rfl, rfl⟩
                  go_wp2_with fail
                  go_roundw
                  case rel => exact ⟨k + 1, put, gone, _, M2, _, by have := HK.out; omega, rfl, rfl, by go_num, HC⟩
                  case measure => simp [intOf]; omega
              · have hb4 : (kd == 4) = false := beq_eq_false_iff_ne.2 h4
                by_cases h2 : kd = 2
                · subst h2
                  rcases Classical.em (∃ z, (id, z) ∈ M) with hz | hz
                  · obtain ⟨z, hz⟩ := hz
                    have HZ := Aside0.mk hz
                    have HS := Aside0.mk (lose_some HC1.out.net id HID.out z hz)
                    clear hz
                    go_wp2_with fail
                    refine HS.out.mono ?_
                    rintro e w3 ⟨rfl, hn, hr⟩
                    have HC := Aside0.mk (HC1.out.cut HG.out.1 HG.out.2 HZ.out hn hr)
                    clear hn hr HS c0 c1 c2 c3 c4
                    obtain ⟨M2, hM2⟩ : ∃ M2, M2 = P.cut M id := ⟨_, rfl⟩
                    rw [← hM2] at HC
                    clear hM2
                    have hp1 : 0 ≤ put := HP1.out
                    have hp2 : put ≤ 100 := HP2.out
                    have hq1 : 0 ≤ gone := HQ1.out
                    have hq2 : gone ≤ 100 := HQ2.out
                    have HLE := Aside0.mk (len_calls g b 40 _ _ w3 HC.out.net)
                    have hs1 := HC.out.sub (by have := HK.out; omega)
                    have hs2 : IntKind.i64.wrap (put - (gone + 1)) = (M2.length : Int) := by rw [IntWalk.i64_left]; exact hs1
                    have hf2 : ¬ (40 : Int) < (M2.length : Int) := by have := HC.out.few; omega
                    go_wp2_with fail
                    refine HLE.out.mono ?_
                    rintro e wl ⟨rfl, rfl⟩
                    go_wp2_with fail
                    refine HLE.out.mono ?_
                    rintro e wl ⟨rfl, rfl⟩
                    go_wp2_with fail
                    go_roundw
                    case rel => exact ⟨k + 1, put, (gone + 1), _, M2, _, by have := HK.out; omega, rfl, rfl, by go_num, HC⟩
                    case measure => simp [intOf]; omega
                  · have HS := Aside0.mk (lose_not HC1.out.net id HID.out (fun p hp e => hz ⟨p.2, by rw [← e]; exact hp⟩))
                    clear hz
                    go_wp2_with fail
                    refine HS.out.mono ?_
                    rintro e w3 ⟨rfl, hn, hr⟩
                    have HC := Aside0.mk ((HC1.out.near HG.out.1 HG.out.2 hn hr).next)
                    obtain ⟨M2, rfl⟩ : ∃ M2, M2 = M := ⟨_, rfl⟩
                    clear hn hr HS c0 c1 c2 c3 c4
                    have hp1 : 0 ≤ put := HP1.out
                    have hp2 : put ≤ 100 := HP2.out
                    have hq1 : 0 ≤ gone := HQ1.out
                    have hq2 : gone ≤ 100 := HQ2.out
                    have HLE := Aside0.mk (len_calls g b 40 _ _ w3 HC.out.net)
                    have hs1 := HC.out.sub (by have := HK.out; omega)
                    have hs2 : IntKind.i64.wrap (put - gone) = (M2.length : Int) := by rw [IntWalk.i64_left]; exact hs1
                    have hf2 : ¬ (40 : Int) < (M2.length : Int) := by have := HC.out.few; omega
                    go_wp2_with fail
                    refine HLE.out.mono ?_
                    rintro e wl ⟨rfl, rfl⟩
                    go_wp2_with fail
                    refine HLE.out.mono ?_
                    rintro e wl ⟨rfl, rfl⟩
                    go_wp2_with fail
                    go_roundw
                    case rel => exact ⟨k + 1, put, gone, _, M2, _, by have := HK.out; omega, rfl, rfl, by go_num, HC⟩
                    case measure => simp [intOf]; omega
                · have hb2 : (kd == 2) = false := beq_eq_false_iff_ne.2 h2
                  by_cases h3 : kd = 3
                  · subst h3
                    have HNT := Aside0.mk (nth_calls g b 40 last M id _ HC1.out.net (by have := HC1.out.few; omega) HC1.out.ok.up)
                    obtain ⟨nid, hnid⟩ : ∃ nid, nid = nthV M id := ⟨_, rfl⟩
                    have HGN : Aside0 (kGood nid) := ⟨by rw [hnid]; exact nthV_good HC1.out.ok id⟩
                    rw [← hnid] at HNT
                    clear hnid
                    go_wp2_with fail
                    refine HNT.out.mono ?_
                    rintro e w2 ⟨rfl, hb⟩
                    have HX2 := Aside0.mk ((hb.block g8 (Array.getElem?_eq_some_iff.1 HX.out).1).trans HX.out)
                    have HC2 := Aside0.mk (HC1.out.later HG.out.1 HG.out.2 hb)
                    clear HC1 HX
                    have HC1 := HC2
                    have HX := HX2
                    clear HC2 HX2 hb HNT c0 c1 c2 c3 c4
                    obtain ⟨c0, c1, c2, c3, c4⟩ := cell5 HX.out
                    rcases Classical.em (∃ z, (nid, z) ∈ M) with hz | hz
                    · obtain ⟨z, hz⟩ := hz
                      have HZ := Aside0.mk hz
                      by_cases hf : M.length < 40
                      · have HF := Aside0.mk hf
                        have HS := Aside0.mk (twice_room HC1.out.net HC1.out.ok nid HGN.out z hz (by omega))
                        clear hz hf
                        go_wp2_with fail
                        refine HS.out.mono ?_
                        rintro e w3 ⟨rfl, hn, hr⟩
                        have HC := Aside0.mk (HC1.out.twice HG.out.1 HG.out.2 (by have := HK.out; omega) HF.out (HC1.out.mem _ HZ.out) hn hr)
                        clear hn hr HS c0 c1 c2 c3 c4
                        obtain ⟨M2, hM2⟩ : ∃ M2, M2 = M ++ [(last + 1, z)] := ⟨_, rfl⟩
                        rw [← hM2] at HC
                        clear hM2
                        have hp1 : 0 ≤ put := HP1.out
                        have hp2 : put ≤ 100 := HP2.out
                        have hq1 : 0 ≤ gone := HQ1.out
                        have hq2 : gone ≤ 100 := HQ2.out
                        have HLE := Aside0.mk (len_calls g b 40 _ _ w3 HC.out.net)
                        have hs1 := HC.out.sub (by have := HK.out; omega)
                        have hs2 : IntKind.i64.wrap ((put + 1) - gone) = (M2.length : Int) := by rw [IntWalk.i64_left]; exact hs1
                        have hf2 : ¬ (40 : Int) < (M2.length : Int) := by have := HC.out.few; omega
                        go_wp2_with fail
                        refine HLE.out.mono ?_
                        rintro e wl ⟨rfl, rfl⟩
                        go_wp2_with fail
                        refine HLE.out.mono ?_
                        rintro e wl ⟨rfl, rfl⟩
                        go_wp2_with fail
                        go_roundw
                        case rel => exact ⟨k + 1, (put + 1), gone, _, M2, _, by have := HK.out; omega, rfl, rfl, by go_num, HC⟩
                        case measure => simp [intOf]; omega
                      · have HS := Aside0.mk (twice_full HC1.out.net nid HGN.out z hz (by omega))
                        clear hz hf
                        go_wp2_with fail
                        refine HS.out.mono ?_
                        rintro e w3 ⟨rfl, hn, hr⟩
                        have HC := Aside0.mk ((HC1.out.near HG.out.1 HG.out.2 hn hr).next)
                        obtain ⟨M2, rfl⟩ : ∃ M2, M2 = M := ⟨_, rfl⟩
                        clear hn hr HS c0 c1 c2 c3 c4
                        have hp1 : 0 ≤ put := HP1.out
                        have hp2 : put ≤ 100 := HP2.out
                        have hq1 : 0 ≤ gone := HQ1.out
                        have hq2 : gone ≤ 100 := HQ2.out
                        have HLE := Aside0.mk (len_calls g b 40 _ _ w3 HC.out.net)
                        have hs1 := HC.out.sub (by have := HK.out; omega)
                        have hs2 : IntKind.i64.wrap (put - gone) = (M2.length : Int) := by rw [IntWalk.i64_left]; exact hs1
                        have hf2 : ¬ (40 : Int) < (M2.length : Int) := by have := HC.out.few; omega
                        go_wp2_with fail
                        refine HLE.out.mono ?_
                        rintro e wl ⟨rfl, rfl⟩
                        go_wp2_with fail
                        refine HLE.out.mono ?_
                        rintro e wl ⟨rfl, rfl⟩
                        go_wp2_with fail
                        go_roundw
                        case rel => exact ⟨k + 1, put, gone, _, M2, _, by have := HK.out; omega, rfl, rfl, by go_num, HC⟩
                        case measure => simp [intOf]; omega
                    · have HS := Aside0.mk (twice_not HC1.out.net nid HGN.out (fun p hp e => hz ⟨p.2, by rw [← e]; exact hp⟩))
                      clear hz
                      go_wp2_with fail
                      refine HS.out.mono ?_
                      rintro e w3 ⟨rfl, hn, hr⟩
                      have HC := Aside0.mk ((HC1.out.near HG.out.1 HG.out.2 hn hr).next)
                      obtain ⟨M2, rfl⟩ : ∃ M2, M2 = M := ⟨_, rfl⟩
                      clear hn hr HS c0 c1 c2 c3 c4
                      have hp1 : 0 ≤ put := HP1.out
                      have hp2 : put ≤ 100 := HP2.out
                      have hq1 : 0 ≤ gone := HQ1.out
                      have hq2 : gone ≤ 100 := HQ2.out
                      have HLE := Aside0.mk (len_calls g b 40 _ _ w3 HC.out.net)
                      have hs1 := HC.out.sub (by have := HK.out; omega)
                      have hs2 : IntKind.i64.wrap (put - gone) = (M2.length : Int) := by rw [IntWalk.i64_left]; exact hs1
                      have hf2 : ¬ (40 : Int) < (M2.length : Int) := by have := HC.out.few; omega
                      go_wp2_with fail
                      refine HLE.out.mono ?_
                      rintro e wl ⟨rfl, rfl⟩
                      go_wp2_with fail
                      refine HLE.out.mono ?_
                      rintro e wl ⟨rfl, rfl⟩
                      go_wp2_with fail
                      go_roundw
                      case rel => exact ⟨k + 1, put, gone, _, M2, _, by have := HK.out; omega, rfl, rfl, by go_num, HC⟩
                      case measure => simp [intOf]; omega
                  · have hb3 : (kd == 3) = false := beq_eq_false_iff_ne.2 h3
                    by_cases h5 : kd = 5
                    · subst h5
                      have HNT := Aside0.mk (nth_calls g b 40 last M id _ HC1.out.net (by have := HC1.out.few; omega) HC1.out.ok.up)
                      obtain ⟨nid, hnid⟩ : ∃ nid, nid = nthV M id := ⟨_, rfl⟩
                      have HGN : Aside0 (kGood nid) := ⟨by rw [hnid]; exact nthV_good HC1.out.ok id⟩
                      rw [← hnid] at HNT
                      clear hnid
                      go_wp2_with fail
                      refine HNT.out.mono ?_
                      rintro e w2 ⟨rfl, hb⟩
                      have HX2 := Aside0.mk ((hb.block g8 (Array.getElem?_eq_some_iff.1 HX.out).1).trans HX.out)
                      have HC2 := Aside0.mk (HC1.out.later HG.out.1 HG.out.2 hb)
                      clear HC1 HX
                      have HC1 := HC2
                      have HX := HX2
                      clear HC2 HX2 hb HNT c0 c1 c2 c3 c4
                      obtain ⟨c0, c1, c2, c3, c4⟩ := cell5 HX.out
                      rcases Classical.em (∃ z, (nid, z) ∈ M) with hz | hz
                      · obtain ⟨z, hz⟩ := hz
                        have HZ := Aside0.mk hz
                        by_cases hf : M.length < 40
                        · have HF := Aside0.mk hf
                          have HS := Aside0.mk (twice_room HC1.out.net HC1.out.ok nid HGN.out z hz (by omega))
                          clear hz hf
                          go_wp2_with fail
                          refine HS.out.mono ?_
                          rintro e w3 ⟨rfl, hn, hr⟩
                          have HC := Aside0.mk (HC1.out.twice HG.out.1 HG.out.2 (by have := HK.out; omega) HF.out (HC1.out.mem _ HZ.out) hn hr)
                          clear hn hr HS c0 c1 c2 c3 c4
                          obtain ⟨M2, hM2⟩ : ∃ M2, M2 = M ++ [(last + 1, z)] := ⟨_, rfl⟩
                          rw [← hM2] at HC
                          clear hM2
                          have hp1 : 0 ≤ put := HP1.out
                          have hp2 : put ≤ 100 := HP2.out
                          have hq1 : 0 ≤ gone := HQ1.out
                          have hq2 : gone ≤ 100 := HQ2.out
                          have HLE := Aside0.mk (len_calls g b 40 _ _ w3 HC.out.net)
                          have hs1 := HC.out.sub (by have := HK.out; omega)
                          have hs2 : IntKind.i64.wrap ((put + 1) - gone) = (M2.length : Int) := by rw [IntWalk.i64_left]; exact hs1
                          have hf2 : ¬ (40 : Int) < (M2.length : Int) := by have := HC.out.few; omega
                          go_wp2_with fail
                          refine HLE.out.mono ?_
                          rintro e wl ⟨rfl, rfl⟩
                          go_wp2_with fail
                          refine HLE.out.mono ?_
                          rintro e wl ⟨rfl, rfl⟩
                          go_wp2_with fail
                          go_roundw
                          case rel => exact ⟨k + 1, (put + 1), gone, _, M2, _, by have := HK.out; omega, rfl, rfl, by go_num, HC⟩
                          case measure => simp [intOf]; omega
                        · have HS := Aside0.mk (twice_full HC1.out.net nid HGN.out z hz (by omega))
                          clear hz hf
                          go_wp2_with fail
                          refine HS.out.mono ?_
                          rintro e w3 ⟨rfl, hn, hr⟩
                          have HC := Aside0.mk ((HC1.out.near HG.out.1 HG.out.2 hn hr).next)
                          obtain ⟨M2, rfl⟩ : ∃ M2, M2 = M := ⟨_, rfl⟩
                          clear hn hr HS c0 c1 c2 c3 c4
                          have hp1 : 0 ≤ put := HP1.out
                          have hp2 : put ≤ 100 := HP2.out
                          have hq1 : 0 ≤ gone := HQ1.out
                          have hq2 : gone ≤ 100 := HQ2.out
                          have HLE := Aside0.mk (len_calls g b 40 _ _ w3 HC.out.net)
                          have hs1 := HC.out.sub (by have := HK.out; omega)
                          have hs2 : IntKind.i64.wrap (put - gone) = (M2.length : Int) := by rw [IntWalk.i64_left]; exact hs1
                          have hf2 : ¬ (40 : Int) < (M2.length : Int) := by have := HC.out.few; omega
                          go_wp2_with fail
                          refine HLE.out.mono ?_
                          rintro e wl ⟨rfl, rfl⟩
                          go_wp2_with fail
                          refine HLE.out.mono ?_
                          rintro e wl ⟨rfl, rfl⟩
                          go_wp2_with fail
                          go_roundw
                          case rel => exact ⟨k + 1, put, gone, _, M2, _, by have := HK.out; omega, rfl, rfl, by go_num, HC⟩
                          case measure => simp [intOf]; omega
                      · have HS := Aside0.mk (twice_not HC1.out.net nid HGN.out (fun p hp e => hz ⟨p.2, by rw [← e]; exact hp⟩))
                        clear hz
                        go_wp2_with fail
                        refine HS.out.mono ?_
                        rintro e w3 ⟨rfl, hn, hr⟩
                        have HC := Aside0.mk ((HC1.out.near HG.out.1 HG.out.2 hn hr).next)
                        obtain ⟨M2, rfl⟩ : ∃ M2, M2 = M := ⟨_, rfl⟩
                        clear hn hr HS c0 c1 c2 c3 c4
                        have hp1 : 0 ≤ put := HP1.out
                        have hp2 : put ≤ 100 := HP2.out
                        have hq1 : 0 ≤ gone := HQ1.out
                        have hq2 : gone ≤ 100 := HQ2.out
                        have HLE := Aside0.mk (len_calls g b 40 _ _ w3 HC.out.net)
                        have hs1 := HC.out.sub (by have := HK.out; omega)
                        have hs2 : IntKind.i64.wrap (put - gone) = (M2.length : Int) := by rw [IntWalk.i64_left]; exact hs1
                        have hf2 : ¬ (40 : Int) < (M2.length : Int) := by have := HC.out.few; omega
                        go_wp2_with fail
                        refine HLE.out.mono ?_
                        rintro e wl ⟨rfl, rfl⟩
                        go_wp2_with fail
                        refine HLE.out.mono ?_
                        rintro e wl ⟨rfl, rfl⟩
                        go_wp2_with fail
                        go_roundw
                        case rel => exact ⟨k + 1, put, gone, _, M2, _, by have := HK.out; omega, rfl, rfl, by go_num, HC⟩
                        case measure => simp [intOf]; omega
                    · have hb5 : (kd == 5) = false := beq_eq_false_iff_ne.2 h5
                      have HC := Aside0.mk HC1.out.next
                      obtain ⟨M2, rfl⟩ : ∃ M2, M2 = M := ⟨_, rfl⟩
                      clear HC1 c1 c2 c3
                      have hp1 : 0 ≤ put := HP1.out
                      have hp2 : put ≤ 100 := HP2.out
                      have hq1 : 0 ≤ gone := HQ1.out
                      have hq2 : gone ≤ 100 := HQ2.out
                      have HLE := Aside0.mk (len_calls g b 40 _ _ W1 HC.out.net)
                      have hs1 := HC.out.sub (by have := HK.out; omega)
                      have hs2 : IntKind.i64.wrap (put - gone) = (M2.length : Int) := by rw [IntWalk.i64_left]; exact hs1
                      have hf2 : ¬ (40 : Int) < (M2.length : Int) := by have := HC.out.few; omega
                      go_wp2_with fail
                      refine HLE.out.mono ?_
                      rintro e wl ⟨rfl, rfl⟩
                      go_wp2_with fail
                      refine HLE.out.mono ?_
                      rintro e wl ⟨rfl, rfl⟩
                      go_wp2_with fail
                      go_roundw
                      case rel => exact ⟨k + 1, put, gone, _, M2, _, by have := HK.out; omega, rfl, rfl, by go_num, HC⟩
                      case measure => simp [intOf]; omega
        · have hy' : (500 : Int) < y.f2.size := by omega
          clear hy
          go_wp2_with fail
          go_roundw
          case rel => exact ⟨k + 1, put, gone, last, M, sent, by omega, rfl, rfl, by go_num, ⟨HC1.out.next⟩⟩
          case measure => simp [intOf]; omega
      · obtain rfl : k = 60 := by omega
        have HB := Aside0.mk HCk.out.below
        go_wp2_with fail
        go_ret
        exact ⟨rfl, HB.out⟩
    · have hkl : ¬ (k : Int) < (l.length : Int) := by omega
      have HB := Aside0.mk HCk.out.below
      clear hlt
      go_wp2_with fail
      go_ret
      exact ⟨rfl, HB.out⟩
end Go.Proofs.Ytomhhbjebgghnaa.P
