/- What the claim on this statement wants of the text YtaomblcecjaedaaEMay. Not trusted: Lean checks it. -/
import Derived.Test.YtaomblcecjaedaaK4Px0
import Derived.Shelf.Abstract
namespace Go.Proofs.Ytaomblcecjaedaa.P
open Go.RowKit Go.Proofs.YtaomblcecjaedaaW.PrintWords Go.Proofs.YtaomblcecjaedaaW.PrintLast Go.Proofs.YtaomblcecjaedaaW.PrintMore
set_option linter.unusedVariables false
set_option linter.unusedSimpArgs false
/-- What a function value over strings answers. -/
def StrPred (g : Nat) (p : ByteArray → Bool) : Prop :=
  ∀ (s : ByteArray) (w : World), Calls Try.prog g #[.string s] w fun e w' => e = .returned (.bool (p s)) ∧ w = w'
def idxFrom (p : ByteArray → Bool) : List ByteArray → Int → Int
  | [], _ => -1
  | s :: l, i => if p s then i else idxFrom p l (i + 1)
theorem idxFrom_any (p : ByteArray → Bool) (l : List ByteArray) : ∀ i : Int, 0 ≤ i → decide (0 ≤ idxFrom p l i) = l.any p := by
  induction l with
  | nil => intro i _; rfl
  | cons s l ih =>
    intro i hi
    unfold idxFrom
    cases hp : p s with
    | true => simp [hp, hi]
    | false => simpa [hp] using ih (i + 1) (by omega)
theorem idx_step (p : ByteArray → Bool) (l : List ByteArray) (k : Nat) (h : k < l.length) :
    idxFrom p (l.drop k) k = if p (rdOf ByteArray.empty l k) then (k : Int) else idxFrom p (l.drop (k + 1)) (k + 1) := by
  rw [List.drop_eq_getElem_cons h]
  show (if p l[k] then (k : Int) else idxFrom p (l.drop (k + 1)) (k + 1)) = _
  have : rdOf ByteArray.empty l (k : Int) = l[k] := by simp [rdOf, h]
  rw [this]
set_option maxHeartbeats 8000000 in
set_option maxRecDepth 100000 in
theorem idx_calls (g : Nat) (p : ByteArray → Bool) (hp : StrPred g p) (he : ∀ args w, (callFunc g args).run Try.prog w = .ok (.enter g args) w) (A0 : Option Addr) (c0 : Nat) (l0 : List ByteArray) (w : World)
    (hr0 : Kd.C Kd.string w A0 l0.length l0) (hc0 : l0.length ≤ c0) :
    Calls Try.prog 54 #[.slice A0 l0.length c0, .func (.func g) #[] #[]] w fun e w' => e = .returned (.int .i64 (idxFrom p l0 0)) ∧ w = w' := by
  have HR0 := Aside0.mk hr0
  have HC0 := Aside0.mk hc0
  have HP := Aside0.mk hp
  have hmax : l0.length ≤ 9223372036854775807 := hr0.2.1
  clear hr0 hc0 hp
  go_enter Try.func54, Try.ntmps54
  go_wp2_with fail
  go_loop [8] (fun v8 => ∃ k : Nat, k ≤ l0.length ∧ v8 = .int .i64 k ∧ Aside0 (idxFrom p l0 0 = idxFrom p (l0.drop k) k)) (fun v8 => l0.length - (intOf v8).toNat)
  case atStart => exact ⟨0, Nat.zero_le _, rfl, ⟨by simp⟩⟩
  case round =>
    obtain ⟨k, hk, rfl, HI⟩ := hrel
    by_cases hlt : k < l0.length
    · obtain ⟨ad, e, hx⟩ := Kd.at_string HR0.out (k : Int) (by omega) (by omega)
      cases e
      rw [Int.toNat_natCast] at hx
      have hs := idx_step p l0 k hlt
      obtain ⟨s, hse⟩ : ∃ s, s = rdOf ByteArray.empty l0 (k : Int) := ⟨_, rfl⟩
      rw [← hse] at hx hs
      cases hpk : p s with
      | true =>
        have HK := Aside0.mk hpk
        have HS : Aside0 (idxFrom p l0 0 = (k : Int)) := ⟨by rw [HI.out, hs, hpk]; rfl⟩
        clear hpk hs hse
        go_wp2_with fail
        refine (HP.out s _).mono ?_
        rw [HK.out]
        rintro e w' ⟨rfl, rfl⟩
        go_wp2_with fail
        go_ret
        exact ⟨by rw [HS.out]; rfl, rfl⟩
      | false =>
        have HK := Aside0.mk hpk
        have HS : Aside0 (idxFrom p l0 0 = idxFrom p (l0.drop (k + 1)) ((k : Int) + 1)) := ⟨by rw [HI.out, hs, hpk]; rfl⟩
        clear hpk hs hse
        go_wp2_with fail
        refine (HP.out s _).mono ?_
        rw [HK.out]
        rintro e w' ⟨rfl, rfl⟩
        go_wp2_with fail
        go_round
        case rel => exact ⟨k + 1, by omega, by go_num, ⟨by rw [HS.out]; rfl⟩⟩
        case measure => simp [intOf]; omega
    · have HE : Aside0 (idxFrom p l0 0 = -1) := ⟨by rw [HI.out, List.drop_eq_nil_of_le (by omega)]; rfl⟩
      go_wp2_with fail
      go_ret
      exact ⟨by rw [HE.out]; rfl, rfl⟩
set_option maxHeartbeats 8000000 in
set_option maxRecDepth 100000 in
theorem containsFunc_calls (g : Nat) (p : ByteArray → Bool) (hp : StrPred g p) (he : ∀ args w, (callFunc g args).run Try.prog w = .ok (.enter g args) w) (A0 : Option Addr) (c0 : Nat) (l0 : List ByteArray) (w : World)
    (hr0 : Kd.C Kd.string w A0 l0.length l0) (hc0 : l0.length ≤ c0) :
    Calls Try.prog 42 #[.slice A0 l0.length c0, .func (.func g) #[] #[]] w fun e w' => e = .returned (.bool (l0.any p)) ∧ w = w' := by
  have HC := Aside0.mk (idx_calls g p hp he A0 c0 l0 w hr0 hc0)
  have HA := Aside0.mk (idxFrom_any p l0 0 (by omega))
  clear hr0 hc0 hp he
  obtain ⟨n, hn⟩ : ∃ n, n = idxFrom p l0 0 := ⟨_, rfl⟩
  rw [← hn] at HC HA
  clear hn
  go_enter Try.func42, Try.ntmps42
  go_wp2_with fail
  refine HC.out.mono ?_
  rintro e w' ⟨rfl, rfl⟩
  go_wp2_with fail
  go_ret
  exact ⟨by rw [← HA.out]; rfl, rfl⟩
set_option maxHeartbeats 8000000 in
theorem long_calls : StrPred 46 (fun s => decide (1024 < s.size)) := by
  intro s w
  by_cases h : 1024 < s.size
  · have h1 : decide (1024 < s.size) = true := decide_eq_true h
    go_enter Try.func46, Try.ntmps46
    go_wp2
    go_ret
    exact ⟨by first | rfl | (simp [h1]; done) | (simp; omega), rfl⟩
  · have h1 : decide (1024 < s.size) = false := decide_eq_false h
    go_enter Try.func46, Try.ntmps46
    go_wp2
    go_ret
    exact ⟨by first | rfl | (simp [h1]; done) | (simp; omega), rfl⟩
set_option maxHeartbeats 8000000 in
theorem short_calls : StrPred 40 (fun s => decide ((s.size : Int) ≠ 32)) := by
  intro s w
  by_cases h : (s.size : Int) = 32
  · have h1 : ((s.size : Int) == 32) = true := by simp [h]
    have h2 : ((s.size : Int) != 32) = false := by simp [h]
    go_enter Try.func40, Try.ntmps40
    go_wp2
    go_ret
    exact ⟨by simp [h], rfl⟩
  · have h1 : ((s.size : Int) == 32) = false := by simp [h]
    have h2 : ((s.size : Int) != 32) = true := by simp [h]
    go_enter Try.func40, Try.ntmps40
    go_wp2
    go_ret
    exact ⟨by simp [h], rfl⟩
def mayOf (l : List ByteArray) : Int := if l.length = 0 then 1 else if 256 < l.length then 2 else if l.any (fun s => decide (1024 < s.size)) then 2 else 0
def merkle_may.f (l0 : List ByteArray) : Option (Int) := some (mayOf l0)
set_option maxHeartbeats 8000000 in
set_option maxRecDepth 100000 in
theorem merkle_may.calls (A0 : Option Addr) (c0 : Nat) (l0 : List ByteArray) (r : Int) (w : World) (hr0 : Kd.C Kd.string w A0 l0.length l0) (hc0 : l0.length ≤ c0) (h : merkle_may.f l0 = some r) :
    Calls Try.prog 30 #[.slice A0 l0.length c0] w fun e w' => e = .returned (.int .i64 r) ∧ Below w.heap.size w w' := by
  obtain rfl := Option.some.inj h
  have HC := Aside0.mk (containsFunc_calls 46 _ long_calls (enters_of Try.func46 (by kernel_rfl) rfl) A0 c0 l0 w hr0 hc0)
  have hmax : l0.length ≤ 9223372036854775807 := hr0.2.1
  clear hr0 hc0
  by_cases h0 : l0.length = 0
  · have HM : Aside0 (mayOf l0 = 1) := ⟨by simp [mayOf, h0]⟩
    have h1 : ((l0.length : Int) == 0) = true := by rw [h0]; rfl
    clear h0
    go_enter Try.func30, Try.ntmps30
    go_wp2_with fail
    go_ret
    exact ⟨by rw [HM.out]; rfl, Below.refl _ _⟩
  · have h1 : ((l0.length : Int) == 0) = false := beq_eq_false_iff_ne.2 (by omega)
    by_cases h2 : 256 < l0.length
    · have HM : Aside0 (mayOf l0 = 2) := ⟨by simp only [mayOf, if_neg h0, if_pos h2]⟩
      have h3 : decide ((256 : Int) < (l0.length : Int)) = true := by simp; omega
      clear h0 h2
      go_enter Try.func30, Try.ntmps30
      go_wp2_with fail
      go_ret
      exact ⟨by rw [HM.out]; rfl, Below.refl _ _⟩
    · have h3 : decide ((256 : Int) < (l0.length : Int)) = false := by simp; omega
      cases hb : l0.any (fun s => decide (1024 < s.size)) with
      | true =>
        have HM : Aside0 (mayOf l0 = 2) := ⟨by simp only [mayOf, if_neg h0, if_neg h2, hb, if_true]⟩
        have HB := Aside0.mk hb
        clear h0 h2 hb
        go_enter Try.func30, Try.ntmps30
        go_wp2_with fail
        refine HC.out.mono ?_
        rw [HB.out]
        rintro e w' ⟨rfl, rfl⟩
        go_wp2_with fail
        go_ret
        exact ⟨by rw [HM.out]; rfl, Below.refl _ _⟩
      | false =>
        have HM : Aside0 (mayOf l0 = 0) := ⟨by simp only [mayOf, if_neg h0, if_neg h2, hb, if_false, Bool.false_eq_true]⟩
        have HB := Aside0.mk hb
        clear h0 h2 hb
        go_enter Try.func30, Try.ntmps30
        go_wp2_with fail
        refine HC.out.mono ?_
        rw [HB.out]
        rintro e w' ⟨rfl, rfl⟩
        go_wp2_with fail
        go_ret
        exact ⟨by rw [HM.out]; rfl, Below.refl _ _⟩
end Go.Proofs.Ytaomblcecjaedaa.P
