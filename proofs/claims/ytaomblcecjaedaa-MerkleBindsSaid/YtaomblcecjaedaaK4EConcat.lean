/- What the claim on this statement wants of the text YtaomblcecjaedaaEConcat. Not trusted: Lean checks it. -/
import Derived.Test.YtaomblcecjaedaaK4Px0
namespace Go.Proofs.Ytaomblcecjaedaa.P
open Go.RowKit Go.Proofs.YtaomblcecjaedaaW.PrintWords Go.Proofs.YtaomblcecjaedaaW.PrintLast Go.Proofs.YtaomblcecjaedaaW.PrintMore
set_option linter.unusedVariables false
set_option linter.unusedSimpArgs false
set_option maxHeartbeats 8000000 in
set_option maxRecDepth 100000 in
theorem grow_calls (n : Int) (h0 : 0 ≤ n) (hn : n ≤ 8796093022207) (w : World) :
    Calls Try.prog 55 #[.slice none 0 0, .int .i64 n] w fun e w' => ∃ v : Value, e = .returned v ∧ Kd.R Kd.string 9 w' w.heap.size (fun _ => True) v [] ∧ Below w.heap.size w w' := by
  by_cases hz : n = 0
  · subst hz
    go_enter Try.func55, Try.ntmps55
    go_wp2_with fail
    go_ret
    exact ⟨_, rfl, Kd.R_nil _ _ _ _ _, Below.refl _ _⟩
  · have hp : decide (0 < n) = true := by simp; omega
    have hq : decide (n < 0) = false := by simp; omega
    have HO := Aside0.mk (Kd.R_nil Kd.string 9 w w.heap.size (fun _ => True))
    clear hz
    go_enter Try.func55, Try.ntmps55
    go_wp2_with (at_builtin; refine Kd.R_append_zeros Kd.string (w0 := w) w.heap.size rfl (.tmp 20) (.tmp 21) 22 3 9 (.string ⟨#[]⟩) 16 rfl Try.underlying22 Try.underlying3 info9 rfl (by decide) (by omega) (.slice none 0 0) [] (⟨#[]⟩ : ByteArray) n (fun _ => True) rfl rfl rfl (fun _ _ => trivial) HO.out (by omega) (Below.refl _ _) (Nat.le_refl _) (by simp; omega) ?_)
    intro v1 w1 hR hB _ _
    obtain ⟨A1, c1, e1⟩ := Kd.R_slice hR
    subst e1
    have HR := Aside0.mk (Kd.R_take hR (Nat.zero_le _))
    have HB := Aside0.mk hB
    rw [List.length_replicate]
    rw [List.take_zero] at HR
    clear hR hB HO
    go_wp2_with fail
    go_ret
    exact ⟨_, rfl, HR.out, HB.out⟩
/-- How long many lists are together. -/
def lensOf : List (List ByteArray) → Nat
  | [] => 0
  | l :: ls => l.length + lensOf ls
def slices_Concat_string_string.f (l0 : List (List ByteArray)) : Option (List ByteArray) := if lensOf l0 < 8796093022208 then some l0.flatten else none
theorem lensOf_drop (l : List (List ByteArray)) (k : Nat) (h : k < l.length) : lensOf (l.drop k) = (rd_L1 l k).length + lensOf (l.drop (k + 1)) := by
  rw [List.drop_eq_getElem_cons h]
  have : rd_L1 l (k : Int) = l[k] := by simp [rd_L1, h]
  rw [this]
  rfl
theorem lensOf_flatten (l : List (List ByteArray)) : l.flatten.length = lensOf l := by
  induction l with
  | nil => rfl
  | cons a l ih => simp [lensOf, ih]
set_option maxHeartbeats 8000000 in
set_option maxRecDepth 100000 in
theorem slices_Concat_string_string.calls (A0 : Option Addr) (c0 : Nat) (l0 : List (List ByteArray)) (r : List ByteArray) (w : World) (hr0 : Kd.C (Kd.slice 9 Kd.string) w A0 l0.length l0) (hc0 : l0.length ≤ c0) (h : slices_Concat_string_string.f l0 = some r) :
    Calls Try.prog 47 #[.slice A0 l0.length c0] w fun e w' => ∃ v0_ : Value, e = .returned (v0_) ∧ Kd.R Kd.string 9 w' w.heap.size (fun _ => True) v0_ r ∧ Below w.heap.size w w' := by
  have hmax : l0.length ≤ 9223372036854775807 := hr0.2.1
  have HR0 := Aside0.mk hr0
  have HC0 := Aside0.mk hc0
  clear hr0 hc0
  unfold slices_Concat_string_string.f at h
  by_cases hl : lensOf l0 < 8796093022208
  · rw [if_pos hl] at h
    obtain rfl := Option.some.inj h
    clear h
    go_enter Try.func47, Try.ntmps47
    go_wp2_with fail
    go_loop [3, 11] (fun v3 v11 => ∃ k s : Nat, k ≤ l0.length ∧ v11 = .int .i64 k ∧ v3 = .int .i64 s ∧ Aside0 (s + lensOf (l0.drop k) = lensOf l0)) (fun _ v11 => l0.length - (intOf v11).toNat)
    case atStart => exact ⟨0, 0, Nat.zero_le _, rfl, rfl, ⟨by simp⟩⟩
    case round =>
      obtain ⟨k, s, hk, rfl, rfl, HS⟩ := hrel
      by_cases hlt : k < l0.length
      · obtain ⟨ad, A1, c1, e, hx, hc1, hy⟩ := at_L1 HR0.out (k : Int) (by omega) (by omega)
        cases e
        rw [Int.toNat_natCast] at hx
        have hd := lensOf_drop l0 k hlt
        obtain ⟨q, hq⟩ : ∃ q, q = rd_L1 l0 (k : Int) := ⟨_, rfl⟩
        rw [← hq] at hx hd
        obtain ⟨n, hn⟩ : ∃ n, n = q.length := ⟨_, rfl⟩
        rw [← hn] at hx hd
        have hs := HS.out
        have hb : s + n ≤ 8796093022207 := by omega
        have HS2 : Aside0 (s + n + lensOf (l0.drop (k + 1)) = lensOf l0) := ⟨by omega⟩
        clear hd hq hn hs HS hc1 hy
        go_wp2_with fail
        go_round
        case rel => exact ⟨k + 1, s + n, by omega, by go_num, by go_num, HS2⟩
        case measure => simp [intOf]; omega
      · have hs := HS.out
        have hd : lensOf (l0.drop k) = 0 := by rw [List.drop_eq_nil_of_le (by omega)]; rfl
        have hsl : s ≤ 8796093022207 := by omega
        clear hs hd HS
        go_wp2_with fail
        refine (grow_calls s (by omega) (by omega) _).mono ?_
        rintro e w1 ⟨v, rfl, ho, hb⟩
        have HO := Aside0.mk ho
        have HB := Aside0.mk hb
        clear ho hb
        go_wp2_with fail
        go_loopw [6, 27] (fun v6 v27 wr => ∃ k : Nat, k ≤ l0.length ∧ v27 = .int .i64 k ∧ Aside0 (Kd.R Kd.string 9 wr w.heap.size (fun _ => True) v6 (l0.take k).flatten) ∧ Aside0 (Below w.heap.size w wr)) (fun _ v27 _ => l0.length - (intOf v27).toNat)
        case atStart => exact ⟨0, Nat.zero_le _, rfl, by simpa using HO, HB⟩
        case round =>
          clear HO HB
          obtain ⟨j, hj, rfl, HO, HB⟩ := hrel
          by_cases hlt2 : j < l0.length
          · obtain ⟨ad, A1, c1, e, hx, hc1, hy⟩ := at_L1 (Kd.C_below HR0.out HB.out) (j : Int) (by omega) (by omega)
            rw [Int.toNat_natCast] at hx
            have hd := lensOf_drop l0 j hlt2
            have hle : (l0.take j).flatten.length + lensOf (l0.drop j) = lensOf l0 := by rw [← lensOf_flatten, ← lensOf_flatten, ← List.length_append, ← List.flatten_append, List.take_append_drop]
            have hf : (l0.take (j + 1)).flatten = (l0.take j).flatten ++ rd_L1 l0 (j : Int) := by
              rw [List.take_succ_eq_append_getElem hlt2, List.flatten_append]
              congr 1
              simp [rd_L1, hlt2]
            obtain ⟨q, hq⟩ : ∃ q, q = rd_L1 l0 (j : Int) := ⟨_, rfl⟩
            rw [← hq] at hx hd hy hf
            obtain ⟨xs, hxs⟩ : ∃ xs, xs = (l0.take j).flatten := ⟨_, rfl⟩
            rw [← hxs] at hf HO hle
            have hb : (xs.length + q.length) * 16 ≤ 140737488355328 := by omega
            have HL := Aside0.mk hb
            have HF := Aside0.mk hf
            have HY := Aside0.mk hy
            cases e
            clear hd hq hle hf hxs hc1 hb hy
            go_wp2_with (at_builtin; refine Kd.R_append_rows Kd.string (w0 := w) w.heap.size rfl (.tmp 31) (.tmp 32) 22 9 (.string ⟨#[]⟩) 16 rfl Try.underlying22 info9 rfl (by decide) (by omega) u6 xs q _ _ _ (fun _ => True) (fun _ => False) rfl rfl HO.out HY.out (fun _ _ h => h) (fun _ h => h.elim) (fun _ _ => trivial) HB.out HB.out.size HL.out ?_)
            intro v1 w1 hR hB2 _ _
            have HO2 := Aside0.mk hR
            have HB2 := Aside0.mk hB2
            rw [← HF.out] at HO2
            clear hR hB2 HO HB HF HY HL
            go_wp2_with fail
            go_roundw
            case rel => exact ⟨j + 1, by omega, by go_num, HO2, HB2⟩
            case measure => simp [intOf]; omega
          · have HE : Aside0 ((l0.take j).flatten = l0.flatten) := ⟨by rw [List.take_of_length_le (by omega)]⟩
            rw [HE.out] at HO
            go_wp2_with fail
            go_ret
            exact ⟨_, rfl, HO.out, HB.out⟩
  · rw [if_neg hl] at h
    exact absurd h (by simp)
end Go.Proofs.Ytaomblcecjaedaa.P
