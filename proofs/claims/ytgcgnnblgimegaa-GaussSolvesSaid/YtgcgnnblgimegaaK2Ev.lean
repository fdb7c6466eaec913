/- What the claim on this statement wants of the text YtgcgnnblgimegaaEv. Not trusted: Lean checks it. -/
import Derived.Test.YtgcgnnblgimegaaK2Px0
namespace Go.Proofs.Ytgcgnnblgimegaa.P
open Go.RowKit Go.Proofs.YtgcgnnblgimegaaW.PrintWords
/-- With enough rounds it answers r. -/
def EV {α : Type} (g : Nat → Option α) (r : α) : Prop := ∃ K, ∀ k, K ≤ k → g k = some r
section
variable {α β : Type} {g g' : Nat → Option α} {r : α}
theorem EV.const (r : α) : EV (fun _ => some r) r := ⟨0, fun _ _ => rfl⟩
theorem EV.bind {h : Nat → α → Option β} {b : β} (hg : EV g r) (hh : EV (fun k => h k r) b) : EV (fun k => (g k).bind (h k)) b := by
  obtain ⟨K, hK⟩ := hg
  obtain ⟨L, hL⟩ := hh
  exact ⟨max K L, fun k hk => by show (g k).bind (h k) = some b; rw [hK k (by omega)]; exact hL k (by omega)⟩
theorem EV.succ (h : EV (fun k => g (k + 1)) r) : EV g r := by
  obtain ⟨K, hK⟩ := h
  refine ⟨K + 1, fun k hk => ?_⟩
  obtain ⟨j, rfl⟩ : ∃ j, k = j + 1 := ⟨k - 1, by omega⟩
  exact hK j (by omega)
theorem EV.pos {c : Prop} [Decidable c] (hc : c) (h : EV g r) : EV (fun k => if c then g k else g' k) r := by simpa only [if_pos hc] using h
theorem EV.neg {c : Prop} [Decidable c] (hc : ¬ c) (h : EV g' r) : EV (fun k => if c then g k else g' k) r := by simpa only [if_neg hc] using h
theorem EV.ex (h : EV g r) : ∃ k, g k = some r := by
  obtain ⟨K, hK⟩ := h
  exact ⟨K, hK K (Nat.le_refl _)⟩
theorem EV.to {r' : α} (h : EV g r) (e : r = r') : EV g r' := e ▸ h
theorem EV.now {x : Option α} (h : x = some r) : EV (fun _ => x) r := ⟨0, fun _ _ => h⟩
end
theorem w64 (x : Int) (h : -9223372036854775808 ≤ x) (h2 : x < 9223372036854775808) : wrap64 x = x := by unfold wrap64; omega
/-- A test at d places from i on, all of them. -/
def allFrom (p : Nat → Bool) : (d i : Nat) → Bool
  | 0, _ => true
  | d + 1, i => p i && allFrom p d (i + 1)
theorem allFrom_iff (p : Nat → Bool) : ∀ (d i : Nat), allFrom p d i = true ↔ ∀ j, i ≤ j → j < i + d → p j = true
  | 0, i => ⟨fun _ j h1 h2 => absurd h2 (by omega), fun _ => rfl⟩
  | d + 1, i => by
    unfold allFrom
    rw [Bool.and_eq_true, allFrom_iff p d (i + 1)]
    constructor
    · rintro ⟨h, k⟩ j h1 h2
      by_cases e : j = i
      · rw [e]; exact h
      · exact k j (by omega) (by omega)
    · intro h
      exact ⟨h i (Nat.le_refl _) (by omega), fun j h1 h2 => h j (by omega) (by omega)⟩
end Go.Proofs.Ytgcgnnblgimegaa.P
