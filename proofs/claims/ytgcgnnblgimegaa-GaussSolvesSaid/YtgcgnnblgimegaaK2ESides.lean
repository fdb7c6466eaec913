/- What the claim on this statement wants of the text YtgcgnnblgimegaaESides. Not trusted: Lean checks it. -/
import Derived.Test.YtgcgnnblgimegaaK2EReduce
import Derived.Test.YtgcgnnblgimegaaK2EGMay
namespace Go.Proofs.Ytgcgnnblgimegaa.P
open Go.RowKit Go.Proofs.YtgcgnnblgimegaaW.PrintWords Go.Proofs.YtgcgnnblgimegaaW.PrintLast Go.Proofs.YtgcgnnblgimegaaW.PrintMore
open Go.Proofs.Ytgcgnnblgimegaa.Red
set_option linter.unusedVariables false
set_option linter.unusedSimpArgs false
def sideOf (r : List Int) : Sd := ⟨ofL r, ⟨#[]⟩⟩
set_option maxHeartbeats 1000000 in
set_option maxRecDepth 100000 in
theorem sides_calls (A0 : Option Addr) (c0 : Nat) (l0 : List (List Int)) (w : World) (hr0 : Kd.C (Kd.slice 3 (Kd.int .i64)) w A0 l0.length l0) (hlen : l0.length ≤ 1000000) (hin : ∀ r ∈ l0, ∀ i ∈ r, 0 ≤ i ∧ i < 192) :
    Calls Try.prog 70 #[.slice A0 l0.length c0] w fun e w' => ∃ v0 : Value, e = .returned v0 ∧ kSd.R 74 w' w.heap.size (fun _ => True) v0 (l0.map sideOf) ∧ Below w.heap.size w w' := by
  have HR0 := Aside0.mk hr0
  have HIN := Aside0.mk hin
  have HL := Aside0.mk hlen
  have hl : (l0.length : Int) ≤ 1000000 := by omega
  clear hr0 hin hlen
  go_enter Try.func70, Try.ntmps70
  go_wp2_with fail
  go_loopw [3, 8] (fun v3 v8 wr => ∃ k : Nat, k ≤ l0.length ∧ v8 = .int .i64 k ∧ Aside0 (kSd.R 74 wr w.heap.size (fun _ => True) v3 ((l0.take k).map sideOf)) ∧ Aside0 (Below w.heap.size w wr)) (fun _ v8 _ => l0.length - (intOf v8).toNat)
  case atStart => exact ⟨0, by omega, rfl, ⟨Kd.R_nil _ _ _ _ _⟩, ⟨Below.refl _ _⟩⟩
  case round =>
    obtain ⟨k, hk, rfl, HO, HB⟩ := hrel
    by_cases hlt : k < l0.length
    · obtain ⟨ad, A1, c1, e, hx, hc1, hC1⟩ := at_L1 (Kd.C_below HR0.out HB.out) (k : Int) (by omega) (by omega)
      cases e
      rw [Int.toNat_natCast] at hx
      obtain ⟨s, hse⟩ : ∃ s, s = rd_L1 l0 (k : Int) := ⟨_, rfl⟩
      rw [← hse] at hx hc1 hC1
      have hsm : s ∈ l0 := by rw [hse]; simp [rd_L1, hlt]
      have HT : Aside0 ((l0.take (k + 1)).map sideOf = (l0.take k).map sideOf ++ [sideOf s]) := ⟨by
        rw [List.take_succ_eq_append_getElem hlt, List.map_append, hse]
        simp [rd_L1, hlt]⟩
      have HC := Aside0.mk (of_calls A1 c1 s wr hC1 hc1 (HIN.out s hsm))
      have HSC : Aside0 (sdC (sideOf s) = [.int .u64 (wd (ofL s) 0), .int .u64 (wd (ofL s) 1), .int .u64 (wd (ofL s) 2), .string ⟨#[]⟩]) := ⟨rfl⟩
      unfold rowV at HC
      have hlt' : (k : Int) < (l0.length : Int) := by omega
      clear hse hC1 hc1 hsm
      go_wp2_with fail
      refine HC.out.mono ?_
      rintro e w1 ⟨rfl, hb1⟩
      have HO1 := Aside0.mk (Kd.R_below HO.out hb1)
      have HB1 := Aside0.mk (below_step HB.out hb1)
      clear hb1 HC HO HB
      go_wp2_with ((with_reducible refine gate_builtin (b := .append) (xs := #[.tmp 12, .tmp 16]) rfl ?_); at_builtin; refine Kd.R_append kSd (w0 := w) w.heap.size rfl (.tmp 12) (.tmp 16) 64 74 (.agg #[.int .u64 0, .int .u64 0, .int .u64 0, .string ⟨#[]⟩]) 40 rfl Try.underlying64 info74 rfl (by decide) (by omega) u3 ((l0.take k).map sideOf) (sideOf s) [.int .u64 (wd (ofL s) 0), .int .u64 (wd (ofL s) 1), .int .u64 (wd (ofL s) 2), .string ⟨#[]⟩] (fun _ => True) (fun _ => False) rfl rfl HSC.out.symm (fun _ hk => hk.elim) (fun _ _ => trivial) HO1.out HB1.out HB1.out.size (by rw [List.length_map, List.length_take]; have := HL.out; omega) ?_; intro v7 w7 hr7 hb7 hg7 hat7; have H7 := Aside0.mk hr7; have H8 := Aside0.mk hb7; clear HO1 HB1 hr7 hb7 hg7 hat7)
      go_roundw
      case rel => exact ⟨k + 1, by omega, by go_num, by rw [HT.out]; exact H7, H8⟩
      case measure => simp [intOf]; omega
    · obtain rfl : k = l0.length := by omega
      go_wp2_with fail
      go_ret
      refine ⟨_, rfl, ?_, HB.out⟩
      have := HO.out
      rwa [List.take_length] at this
end Go.Proofs.Ytgcgnnblgimegaa.P
