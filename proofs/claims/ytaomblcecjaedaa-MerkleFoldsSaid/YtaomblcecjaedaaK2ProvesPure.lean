/- What the claim on this statement wants of the text YtaomblcecjaedaaProvesPure. Not trusted: Lean checks it. -/
import Derived.Test.YtaomblcecjaedaaK2Code
import Derived.Test.YtaomblcecjaedaaK2Px0
import Derived.Test.YtaomblcecjaedaaK2Px1
import Derived.Test.YtaomblcecjaedaaK2Px3
import Derived.Test.YtaomblcecjaedaaK2Px4
import Derived.Test.YtaomblcecjaedaaK2Px10
import Derived.Test.YtaomblcecjaedaaK2Px11
import Derived.Test.YtaomblcecjaedaaK2EMay
import Derived.Test.YtaomblcecjaedaaK2ESha
import Derived.Test.YtaomblcecjaedaaK2ERoot
namespace Go.Proofs.Ytaomblcecjaedaa.P
open Go.RowKit Go.Proofs.YtaomblcecjaedaaW.PrintWords
/-- Few texts, none long. -/
def fewOf (l : List ByteArray) (n m : Int) : Bool := decide ((l.length : Int) ≤ n) && l.all fun x => decide ((x.size : Int) ≤ m)
theorem few_l0 (l : List ByteArray) (m : Int) (hl : l.length ≤ 1000) : ∀ (j i : Nat), i + j = l.length → EV (fun k => mosaiclaw03_few.l0 k l m (i : Int)) ((l.drop i).all fun x => decide ((x.size : Int) ≤ m))
  | 0, i, h => by
    refine EV.succ ?_
    simp only [mosaiclaw03_few.l0]
    refine EV.neg (by omega) ((EV.const _).to ?_)
    rw [List.drop_eq_nil_of_le (by omega)]
    rfl
  | j + 1, i, h => by
    refine EV.succ ?_
    simp only [mosaiclaw03_few.l0]
    refine EV.pos (by omega) (EV.pos (by omega) ?_)
    rw [rdOf_nat, w64 _ (by omega) (by omega), drop_cons l i (by omega), List.all_cons]
    by_cases hs : ((l.getD i ByteArray.empty).size : Int) > m
    · refine EV.pos hs ((EV.const _).to ?_)
      rw [show decide (((l.getD i ByteArray.empty).size : Int) ≤ m) = false from decide_eq_false (by omega)]
      rfl
    · refine EV.neg hs ?_
      rw [show decide (((l.getD i ByteArray.empty).size : Int) ≤ m) = true from decide_eq_true (by omega), Bool.true_and]
      exact few_l0 l m hl j (i + 1) (by omega)
theorem few_ev (l : List ByteArray) (n m : Int) (hn : n ≤ 1000) : EV (fun k => mosaiclaw03_few.f k l n m) (fewOf l n m) := by
  unfold mosaiclaw03_few.f fewOf
  by_cases h : (l.length : Int) > n
  · rw [show decide ((l.length : Int) ≤ n) = false from by simp; omega]
    exact EV.pos h (EV.const _)
  · rw [show decide ((l.length : Int) ≤ n) = true from by simp; omega, Bool.true_and]
    exact EV.neg h (few_l0 l m (by omega) l.length 0 (by omega))
theorem few_true {l : List ByteArray} {n m : Nat} (h : fewOf l (n : Int) (m : Int) = true) : l.length ≤ n ∧ ∀ x ∈ l, x.size ≤ m := by
  unfold fewOf at h
  simp only [Bool.and_eq_true, decide_eq_true_eq, List.all_eq_true] at h
  exact ⟨by omega, fun x hx => by have := h.2 x hx; omega⟩
theorem awake_ev : EV (fun k => mosaiclaw03_awake.f k) true := by
  obtain ⟨a, ha⟩ : ∃ z : ByteArray, z = ⟨#[97]⟩ := ⟨_, rfl⟩
  obtain ⟨b, hb⟩ : ∃ z : ByteArray, z = ⟨#[98]⟩ := ⟨_, rfl⟩
  obtain ⟨c, hc⟩ : ∃ z : ByteArray, z = ⟨#[99]⟩ := ⟨_, rfl⟩
  have sa : a.size = 1 := by rw [ha]; rfl
  have sb : b.size = 1 := by rw [hb]; rfl
  have sc : c.size = 1 := by rw [hc]; rfl
  have hs : ∀ x ∈ [a, b, c], x.size ≤ 1024 := by
    intro x hx
    simp at hx
    rcases hx with rfl | rfl | rfl <;> omega
  unfold mosaiclaw03_awake.f
  rw [← ha, ← hb, ← hc]
  clear ha hb hc
  simp only [Option.bind_some]
  have hr : EV (fun k => merkle_Root.f k [a, b, c]) (SHA (kt (SHA (kt (SHA (lf a)) (SHA (lf b)))) (SHA (lf c))), 0) := (root_ev [a, b, c] (by simp) (by simp) hs).to (by simp [rootS, pairsS])
  have hp0 : EV (fun k => merkle_Path.f k [a, b, c] 0) ([SHA (lf b), SHA (lf c)], 0) := (path_ev [a, b, c] 0 (by simp) (by simp) hs).to (by simp [pathS, pairsS])
  have hp2 : EV (fun k => merkle_Path.f k [a, b, c] 2) ([SHA (kt (SHA (lf a)) (SHA (lf b)))], 0) := (path_ev [a, b, c] 2 (by simp) (by simp) hs).to (by simp [pathS, pairsS])
  refine EV.bind hr (EV.bind hp0 (EV.bind hp2 ?_))
  rw [leaf_f a (by omega), leaf_f b (by omega), leaf_f c (by omega)]
  simp only [Option.bind_some]
  have s32 := fun x => SHA_small x
  rw [Knot_f (SHA (lf a)) (SHA (lf b)) (by have := s32 (lf a); omega) (by have := s32 (lf b); omega)]
  simp only [Option.bind_some]
  rw [Knot_f (SHA (kt (SHA (lf a)) (SHA (lf b)))) (SHA (lf c)) (by have := s32 (kt (SHA (lf a)) (SHA (lf b))); omega) (by have := s32 (lf c); omega)]
  simp only [Option.bind_some]
  refine EV.now ?_
  have h32 : (SHA (kt (SHA (kt (SHA (lf a)) (SHA (lf b)))) (SHA (lf c)))).size = 32 := SHA_32 (by rw [kt_size]; have := s32 (kt (SHA (lf a)) (SHA (lf b))); have := s32 (lf c); omega)
  simp [rdOf, h32]
end Go.Proofs.Ytaomblcecjaedaa.P
