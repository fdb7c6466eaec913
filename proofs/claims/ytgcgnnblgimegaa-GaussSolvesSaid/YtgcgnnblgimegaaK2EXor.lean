/- What the claim on this statement wants of the text YtgcgnnblgimegaaEXor. Not trusted: Lean checks it. -/
import Derived.Test.YtgcgnnblgimegaaK2Px0
import Derived.Test.YtgcgnnblgimegaaK2Red
import Derived.Laws.BitsAllLaws
import Derived.Lib.ConvBytes
namespace Go.Proofs.Ytgcgnnblgimegaa.P
open Go.RowKit Go.Proofs.YtgcgnnblgimegaaW.PrintWords Go.Proofs.YtgcgnnblgimegaaW.PrintLast Go.Proofs.YtgcgnnblgimegaaW.PrintMore
open Go.Proofs.Ytgcgnnblgimegaa.Red
set_option linter.unusedVariables false
set_option linter.unusedSimpArgs false
theorem cell_ne (W : World) {g j k : Nat} (v : Value) (u : Unit) (h : k ≠ j) : (W.setCell ⟨g, k, none⟩ v).cell? ⟨g, j, none⟩ = W.cell? ⟨g, j, none⟩ := by
  rw [World.cell?_setCell_other]
  intro e
  injection e with _ e _
  exact h e
/-- A row of bytes in a block of the call's own. -/
structure BX (w W : World) (g : Nat) (xs : List Int) : Prop where
  cells : ∀ j, j < xs.length → W.cell? ⟨g, j, none⟩ = some (.int .u8 (xs.getD j 0))
  froz : ∀ j, j < xs.length → W.frozen? ⟨g, j, none⟩ = false
  hb : Below w.heap.size w W
  ge : w.heap.size ≤ g
theorem BX.set {w W : World} {g : Nat} {xs : List Int} (h : BX w W g xs) (k : Nat) (hk : k < xs.length) (v : Int) : BX w (W.setCell ⟨g, k, none⟩ (.int .u8 v)).drew g (xs.set k v) := by
  refine ⟨fun j hj => ?_, fun j hj => ?_, below_drew (below_set h.hb h.ge), h.ge⟩
  · rw [List.length_set] at hj
    show (W.setCell ⟨g, k, none⟩ (.int .u8 v)).cell? ⟨g, j, none⟩ = _
    by_cases e : j = k
    · subst e
      rw [World.cell?_setCell_same' _ _ _ (by rw [h.cells j hj]; rfl)]
      simp [hj]
    · rw [cell_ne _ _ () (fun h => e h.symm), h.cells j hj]
      simp [List.getD_eq_getElem?_getD, List.getElem?_set, Ne.symm e]
  · rw [List.length_set] at hj
    show (W.setCell ⟨g, k, none⟩ (.int .u8 v)).frozen? ⟨g, j, none⟩ = _
    rw [World.frozen?_setCell]
    exact h.froz j hj
/-- The first k bytes added up. -/
def mixB (a b : ByteArray) (k : Nat) : List Int := (List.range a.size).map fun j => if j < k then Go.bits .xor .u8 (bt a j) (bt b j) else bt a j
theorem mixB_len (a b : ByteArray) (k : Nat) : (mixB a b k).length = a.size := by simp [mixB]
theorem mixB_get (a b : ByteArray) (k j : Nat) (h : j < a.size) : (mixB a b k).getD j 0 = if j < k then Go.bits .xor .u8 (bt a j) (bt b j) else bt a j := by
  simp [mixB, List.getD_eq_getElem?_getD, h]
theorem mixB_set (a b : ByteArray) (k : Nat) : (mixB a b k).set k (Go.bits .xor .u8 (bt a k) (bt b k)) = mixB a b (k + 1) := by
  apply List.ext_getElem?
  intro j
  by_cases hj : j < a.size
  · rw [List.getElem?_set]
    by_cases e : k = j
    · subst e
      simp [mixB, hj]
    · have : (j < k) ↔ (j < k + 1) := by omega
      simp [mixB, hj, e, this]
  · rw [List.getElem?_eq_none (by simp [mixB]; omega), List.getElem?_eq_none (by simp [mixB]; omega)]
theorem bt_byteAt (a : ByteArray) (j : Nat) : bt a (j : Int) = ((byteAt a j).toNat : Int) := by
  unfold bt byteAt
  rw [Int.toNat_natCast]
  by_cases h : j < a.size
  · rw [dif_pos h]
    have : a.data[j]? = some (a.data[j]'h) := Array.getElem?_eq_getElem h
    rw [this]
    rfl
  · rw [dif_neg h]
    have : a.data[j]? = none := Array.getElem?_eq_none (Nat.le_of_not_lt h)
    rw [this]
    rfl
theorem mixB_done (a b : ByteArray) (h : a.size = b.size) : strOfNums (mixB a b a.size) = xorB a b := by
  refine bytes_ext ?_ fun j => ?_
  · rw [strOfNums_size, mixB_len, xorB_size rfl h.symm]
  · rw [xorB_at h]
    show ((strOfNums (mixB a b a.size)).data[j]?).getD 0 = _
    rw [← Array.getElem?_toList, strOfNums_data, List.getElem?_map]
    by_cases hj : j < a.size
    · have e : (mixB a b a.size)[j]? = some (Go.bits .xor .u8 (bt a j) (bt b j)) := by simp [mixB, hj]
      rw [e, bt_byteAt, bt_byteAt, u8_xor_nat _ _ (byteAt a j).toNat_lt (byteAt b j).toNat_lt]
      show UInt8.ofNat ((((byteAt a j).toNat ^^^ (byteAt b j).toNat : Nat) : Int).toNat) = _
      rw [Int.toNat_natCast]
      apply UInt8.toNat.inj
      rw [UInt8.toNat_xor]
      simp
    · have e : (mixB a b a.size)[j]? = none := List.getElem?_eq_none (by rw [mixB_len]; omega)
      have e1 : byteAt a j = 0 := by unfold byteAt; rw [Array.getElem?_eq_none (Nat.le_of_not_lt hj)]; rfl
      have e2 : byteAt b j = 0 := by unfold byteAt; rw [Array.getElem?_eq_none (show b.size ≤ j by omega)]; rfl
      rw [e, e1, e2]
      rfl
set_option maxHeartbeats 1000000 in
set_option maxRecDepth 100000 in
theorem badd_calls (a b : ByteArray) (h : a.size = b.size) (hmax : a.size ≤ 9223372036854775807) (w W : World) (g c : Nat) (HX : BX w W g (mixB a b 0)) :
    Calls Try.prog 48 #[.slice (some ⟨g, 0, none⟩) a.size c, .string b] W fun e w' => e = .returned (.tuple #[]) ∧ BX w w' g (mixB a b a.size) := by
  have HX := Aside0.mk HX
  go_enter Try.func48, Try.ntmps48
  go_wp2_with fail
  go_loopw [7] (fun v7 wr => ∃ k : Nat, k ≤ a.size ∧ v7 = .int .i64 k ∧ Aside0 (BX w wr g (mixB a b k))) (fun v7 _ => a.size - (intOf v7).toNat)
  case atStart => exact ⟨0, by omega, rfl, HX⟩
  case round =>
    obtain ⟨k, hk, rfl, HA⟩ := hrel
    by_cases hlt : k < a.size
    · have hx := HA.out.cells k (by rw [mixB_len]; exact hlt)
      have hf := HA.out.froz k (by rw [mixB_len]; exact hlt)
      rw [mixB_get _ _ _ _ hlt, if_neg (Nat.lt_irrefl k)] at hx
      have hs : ∀ h : k < b.size, ((b[k]'h).toNat : Int) = bt b (k : Int) := fun h => by simp [bt, h]
      have HS := Aside0.mk (mixB_set a b k)
      have hsz : (k : Int) < (b.size : Int) := by omega
      have hsz1 : (k : Int) < (a.size : Int) := by omega
      obtain ⟨x, ex⟩ : ∃ x, x = bt a (k : Int) := ⟨_, rfl⟩
      obtain ⟨y, ey⟩ : ∃ y, y = bt b (k : Int) := ⟨_, rfl⟩
      rw [← ex] at hx HS
      rw [← ey] at hs HS
      clear ex ey
      go_wp2_with fail
      go_region
      go_wp2_with fail
      go_roundw
      case rel => exact ⟨k + 1, by omega, by go_num, ⟨by rw [← HS.out]; exact HA.out.set k (by rw [mixB_len]; exact hlt) _⟩⟩
      case measure => simp [intOf]; omega
    · obtain rfl : k = a.size := by omega
      go_wp2_with fail
      go_end0
      exact ⟨rfl, HA.out⟩
theorem BX.start (w : World) (a b : ByteArray) : BX w (Lib.bytesWorld w 5 a) w.heap.size (mixB a b 0) := by
  have hm : a.size ≤ (Lib.bytesCells w 5 a).size := by
    unfold Lib.bytesCells
    rw [Array.size_append, Array.size_map]
    exact Nat.le_add_right _ _
  refine ⟨fun j hj => ?_, fun j hj => ?_, ⟨rfl, rfl, rfl, by rw [Lib.bytesWorld_size]; omega, fun i hi => Lib.bytesWorld_at_old w 5 a i hi⟩, Nat.le_refl _⟩
  · rw [mixB_len] at hj
    rw [Lib.bytesWorld_cell w 5 a j hj, mixB_get _ _ _ _ hj, if_neg (Nat.not_lt_zero j), bt_byteAt]
    have e : a.data.toList.getD j 0 = byteAt a j := by
      unfold byteAt
      rw [List.getD_eq_getElem?_getD, Array.getElem?_toList]
    rw [e]
  · rw [mixB_len] at hj
    simp only [World.frozen?, Lib.bytesWorld_at_new]
    simp
    omega
def block_Xor.f (a0 a1 : ByteArray) : Option (ByteArray × Int) := if a0.size ≤ 9223372036854775807 then (if a0.size = a1.size then some (xorB a0 a1, 0) else some (ByteArray.empty, 1)) else none
set_option maxHeartbeats 1000000 in
set_option maxRecDepth 100000 in
theorem block_Xor.calls (a0 : ByteArray) (a1 : ByteArray) (r1 : ByteArray) (r2 : Int) (w : World) (h : block_Xor.f a0 a1 = some (r1, r2)) :
    Calls Try.prog 20 #[.string a0, .string a1] w fun e w' => e = .returned (.tuple #[.string r1, .int .i64 r2]) ∧ Below w.heap.size w w' := by
  unfold block_Xor.f at h
  by_cases hmax : a0.size ≤ 9223372036854775807
  · rw [if_pos hmax] at h
    by_cases hs : a0.size = a1.size
    · rw [if_pos hs] at h
      have h := Option.some.inj h
      obtain ⟨rfl, rfl⟩ : xorB a0 a1 = r1 ∧ (0 : Int) = r2 := by simpa using h
      have hne : ((a0.size : Int) != (a1.size : Int)) = false := by rw [hs]; simp
      have HC := Aside0.mk (badd_calls a0 a1 hs hmax w _ w.heap.size (grownCap w a0.size 0 5) (BX.start w a0 a1))
      have HD := Aside0.mk (mixB_done a0 a1 hs)
      have hcv := Lib.run_convert_string_bytes (P := Try.prog) w 9 90 5 a0 Try.underlying9 Try.underlying90 Try.underlying5
      clear h hs hmax
      go_enter Try.func20, Try.ntmps20
      go_wp2_with fail
      refine HC.out.mono ?_
      rintro e w1 ⟨rfl, hb1⟩
      have HB := Aside0.mk hb1
      have hcv2 := run_convert_bytes_arg (P := Try.prog) w1 90 5 Try.underlying90 Try.underlying5 w.heap.size 0 a0.size (grownCap w a0.size 0 5) (mixB a0 a1 a0.size) (mixB_len _ _ _) (fun i hi => by rw [Nat.zero_add]; exact hb1.cells i (by rw [mixB_len]; exact hi)) 9 Try.underlying9
      rw [HD.out] at hcv2
      clear HC hb1 hcv
      go_wp2_with fail
      go_ret2
      exact ⟨rfl, HB.out.hb⟩
    · rw [if_neg hs] at h
      have h := Option.some.inj h
      obtain ⟨rfl, rfl⟩ : ByteArray.empty = r1 ∧ (1 : Int) = r2 := by simpa using h
      have hne : ((a0.size : Int) != (a1.size : Int)) = true := by simp; omega
      clear h hs hmax
      go_enter Try.func20, Try.ntmps20
      go_wp2_with fail
      go_ret2
      exact ⟨rfl, Below.refl _ _⟩
  · rw [if_neg hmax] at h; exact absurd h (by simp)
end Go.Proofs.Ytgcgnnblgimegaa.P
