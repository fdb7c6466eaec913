/- What the claim on this statement wants of the text YtgcgnnblgimegaaEIdx. Not trusted: Lean checks it. -/
import Derived.Test.YtgcgnnblgimegaaK2ESide
namespace Go.Proofs.Ytgcgnnblgimegaa.P
open Go.RowKit Go.Proofs.YtgcgnnblgimegaaW.PrintWords Go.Proofs.YtgcgnnblgimegaaW.PrintLast Go.Proofs.YtgcgnnblgimegaaW.PrintMore
open Go.Proofs.Ytgcgnnblgimegaa.Red
set_option linter.unusedVariables false
set_option linter.unusedSimpArgs false
/-- A kind of several cells that lead nowhere. -/
def flat {α : Type} (enc : α → List Value) (n : Nat) (h1 : ∀ x, (enc x).length = n) (h2 : ∀ x, ∀ u ∈ enc x, u.oneCell' = true) : Kd α where
  sz := n
  E := []
  K := fun _ x cs => cs = enc x
  M := fun _ _ _ x cs => cs = enc x
  K_len := fun h => by rw [h]; exact h1 _
  K_one := fun h => by rw [h]; exact h2 _
  K_below := fun _ h => h
  K_of_M := fun h => h
  M_mono := fun _ h => h
  M_bound := fun h => h
  M_move := fun _ h => h
  M_lower := fun _ h => h
def sdC (s : Sd) : List Value := [.int .u64 (wd s.x 0), .int .u64 (wd s.x 1), .int .u64 (wd s.x 2), .string s.b]
def kSd : Kd Sd := flat sdC 4 (fun _ => rfl) (fun s u hu => by
  simp [sdC] at hu
  rcases hu with rfl | rfl | rfl | rfl <;> rfl)
def zSd : Sd := ⟨0, ByteArray.empty⟩
theorem at_sd {w : World} {A : Option Addr} {n : Nat} {xs : List Sd} (h : kSd.C w A n xs) (i : Int) (h0 : 0 ≤ i) (h1 : i < n) :
    ∃ ad, A = some ad ∧ w.cell? (ad.add (i.toNat * 4)) = some (.int .u64 (wd (xs.getD i.toNat zSd).x 0)) ∧ w.cell? ⟨(ad.add (i.toNat * 4)).block, (ad.add (i.toNat * 4)).off + 1, none⟩ = some (.int .u64 (wd (xs.getD i.toNat zSd).x 1)) ∧
      w.cell? ⟨(ad.add (i.toNat * 4)).block, (ad.add (i.toNat * 4)).off + 2, none⟩ = some (.int .u64 (wd (xs.getD i.toNat zSd).x 2)) ∧ w.cell? ⟨(ad.add (i.toNat * 4)).block, (ad.add (i.toNat * 4)).off + 3, none⟩ = some (.string (xs.getD i.toNat zSd).b) := by
  obtain ⟨ad, c, e, _, hK, hc0⟩ := Kd.C_get h zSd i h0 h1
  have hc : ∀ j u, c[j]? = some u → w.cell? (ad.add (i.toNat * 4 + j)) = some u := hc0
  obtain rfl : c = sdC (xs.getD i.toNat zSd) := hK
  exact ⟨ad, e, hc 0 _ rfl, by rw [← add_field _ _ 1 (by omega)]; exact hc 1 _ rfl, by rw [← add_field _ _ 2 (by omega)]; exact hc 2 _ rfl, by rw [← add_field _ _ 3 (by omega)]; exact hc 3 _ rfl⟩
set_option maxHeartbeats 1000000 in
set_option maxRecDepth 100000 in
/-- reduce's first function value: has the side the number that its variable holds? -/
theorem hasAt_calls (s : Sd) (gi : Nat) (i : Int) (h0 : 0 ≤ i) (h1 : i < 192) (w : World) (hi : w.cell? ⟨gi, 0, none⟩ = some (.int .i64 i)) :
    Calls Try.prog 75 #[sdV s, .pointer (some ⟨gi, 0, none⟩)] w fun e w' => e = .returned (.bool (s.x.testBit i.toNat)) ∧ Below w.heap.size w w' := by
  have HC := Aside0.mk (fun w => has_calls s.x i h0 h1 w)
  unfold sdV
  unfold rowV at HC
  have hlt : gi < w.heap.size := World.block_lt_of_cell? w _ hi
  have hne : ¬ w.heap.size = gi := by omega
  have hne' : ¬ gi = w.heap.size := by omega
  go_enter Try.func75, Try.ntmps75
  go_wp2_with fail
  refine (HC.out _).mono ?_
  rintro e w1 ⟨rfl, hb1⟩
  have HB := Aside0.mk (below_step (below_alloc (Below.refl w.heap.size w) _) hb1)
  clear hb1
  go_wp2_with fail
  go_ret
  exact ⟨rfl, HB.out⟩
/-- The place of the first side that has a number; -1: none has it. -/
def fidx (i : Nat) (l : List Sd) : Int := match l.findIdx? (fun s => s.x.testBit i) with | none => -1 | some k => k
theorem fidx_some {i : Nat} {l : List Sd} {k : Nat} (hk : k < l.length) (h : ∀ j, j < k → (l.getD j zSd).x.testBit i = false) (hb : (l.getD k zSd).x.testBit i = true) : fidx i l = (k : Int) := by
  have : l.findIdx? (fun s => s.x.testBit i) = some k := by
    rw [List.findIdx?_eq_some_iff_getElem]
    refine ⟨hk, ?_, fun j hj => ?_⟩
    · simpa [List.getD_eq_getElem?_getD, hk] using hb
    · have := h j hj
      rw [List.getD_eq_getElem?_getD, List.getElem?_eq_getElem (by omega)] at this
      simpa using this
  unfold fidx
  rw [this]
theorem fidx_none {i : Nat} {l : List Sd} (h : ∀ j, j < l.length → (l.getD j zSd).x.testBit i = false) : fidx i l = -1 := by
  have : l.findIdx? (fun s => s.x.testBit i) = none := by
    rw [List.findIdx?_eq_none_iff]
    intro s hs
    obtain ⟨j, hj, rfl⟩ := List.getElem_of_mem hs
    have := h j hj
    rw [List.getD_eq_getElem?_getD, List.getElem?_eq_getElem hj] at this
    simpa using this
  unfold fidx
  rw [this]
set_option maxHeartbeats 1000000 in
set_option maxRecDepth 100000 in
theorem idx_calls (gi : Nat) (i : Int) (h0 : 0 ≤ i) (h1 : i < 192) (A0 : Option Addr) (c0 : Nat) (l0 : List Sd) (w : World) (hi : w.cell? ⟨gi, 0, none⟩ = some (.int .i64 i))
    (hr0 : kSd.C w A0 l0.length l0) :
    Calls Try.prog 74 #[.slice A0 l0.length c0, .func (.func 75) #[] #[.pointer (some ⟨gi, 0, none⟩)]] w fun e w' => e = .returned (.int .i64 (fidx i.toNat l0)) ∧ Below w.heap.size w w' := by
  have HR0 := Aside0.mk hr0
  have HI := Aside0.mk hi
  have hmax : l0.length ≤ 9223372036854775807 := hr0.2.1
  clear hr0 hi
  go_enter Try.func74, Try.ntmps74
  go_wp2_with fail
  go_loopw [8] (fun v8 wr => ∃ k : Nat, k ≤ l0.length ∧ v8 = .int .i64 k ∧ Aside0 (Below w.heap.size w wr) ∧ Aside0 (∀ j, j < k → (l0.getD j zSd).x.testBit i.toNat = false)) (fun v8 _ => l0.length - (intOf v8).toNat)
  case atStart => exact ⟨0, Nat.zero_le _, rfl, ⟨Below.refl _ _⟩, ⟨fun j hj => absurd hj (by omega)⟩⟩
  case round =>
    obtain ⟨k, hk, rfl, HB, HN⟩ := hrel
    by_cases hlt : k < l0.length
    · obtain ⟨ad, e, c0, c1, c2, c3⟩ := at_sd (Kd.C_below HR0.out HB.out) (k : Int) (by omega) (by omega)
      cases e
      rw [Int.toNat_natCast] at c0 c1 c2 c3
      obtain ⟨s, hs⟩ : ∃ s, s = l0.getD k zSd := ⟨_, rfl⟩
      rw [← hs] at c0 c1 c2 c3
      have HC := Aside0.mk (hasAt_calls s gi i h0 h1 wr (pw_cell_below HB.out HI.out))
      have HS := Aside0.mk hs
      have hlt' : (k : Int) < (l0.length : Int) := by omega
      clear hs
      cases hb : s.x.testBit i.toNat with
      | true =>
        rw [hb] at HC
        have HF := Aside0.mk (fidx_some hlt HN.out (by rw [← HS.out]; exact hb))
        clear hb
        go_wp2_with fail
        refine HC.out.mono ?_
        rintro e w1 ⟨rfl, hb1⟩
        have HB1 := Aside0.mk (below_step HB.out hb1)
        clear hb1 c0 c1 c2 c3
        go_wp2_with fail
        go_ret
        exact ⟨by rw [HF.out]; rfl, HB1.out⟩
      | false =>
        rw [hb] at HC
        have HF : Aside0 (∀ j, j < k + 1 → (l0.getD j zSd).x.testBit i.toNat = false) := ⟨fun j hj => by
          by_cases e : j = k
          · subst e; rw [← HS.out]; exact hb
          · exact HN.out j (by omega)⟩
        clear hb
        go_wp2_with fail
        refine HC.out.mono ?_
        rintro e w1 ⟨rfl, hb1⟩
        have HB1 := Aside0.mk (below_step HB.out hb1)
        clear hb1 c0 c1 c2 c3
        go_wp2_with fail
        go_roundw
        case rel => exact ⟨k + 1, by omega, by go_num, HB1, HF⟩
        case measure => simp [intOf]; omega
    · have HF := Aside0.mk (fidx_none (i := i.toNat) (l := l0) (fun j hj => HN.out j (by omega)))
      go_wp2_with fail
      go_ret
      exact ⟨by rw [HF.out]; rfl, HB.out⟩
end Go.Proofs.Ytgcgnnblgimegaa.P
