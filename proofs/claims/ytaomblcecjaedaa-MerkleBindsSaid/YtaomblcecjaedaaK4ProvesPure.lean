/- What the claim on this statement wants of the text YtaomblcecjaedaaProvesPure. Not trusted: Lean checks it. -/
import Derived.Test.YtaomblcecjaedaaK4Code
import Derived.Test.YtaomblcecjaedaaK4Px0
import Derived.Test.YtaomblcecjaedaaK4Px1
import Derived.Test.YtaomblcecjaedaaK4Px3
import Derived.Test.YtaomblcecjaedaaK4Px4
import Derived.Test.YtaomblcecjaedaaK4Px10
import Derived.Test.YtaomblcecjaedaaK4Px11
import Derived.Test.YtaomblcecjaedaaK4Px14
import Derived.Test.YtaomblcecjaedaaK4ERoot
namespace Go.Proofs.Ytaomblcecjaedaa.P
open Go.RowKit Go.Proofs.YtaomblcecjaedaaW.PrintWords
/-- Few texts, none long. -/
def fewOf (l : List ByteArray) (n m : Int) : Bool := decide ((l.length : Int) ≤ n) && l.all fun x => decide ((x.size : Int) ≤ m)
theorem few_l0 (l : List ByteArray) (m : Int) (hl : l.length ≤ 1000) : ∀ (j i : Nat), i + j = l.length → EV (fun k => mosaiclaw03_few.l0 k l m (i : Int)) ((l.drop i).all fun x => decide ((x.size : Int) ≤ m))
  | 0, i, h => by
    refine EV.succ ?_
    simp only [mosaiclaw03_few.l0]
    refine EV.neg (by omega) ((EV.const _).to ?_)
    rw [List.drop_eq_nil_of_le (by omega)]
    rfl
  | j + 1, i, h => by
    refine EV.succ ?_
    simp only [mosaiclaw03_few.l0]
    refine EV.pos (by omega) (EV.pos (by omega) ?_)
    rw [rdOf_nat, w64 _ (by omega) (by omega), drop_cons l i (by omega), List.all_cons]
    by_cases hs : ((l.getD i ByteArray.empty).size : Int) > m
    · refine EV.pos hs ((EV.const _).to ?_)
      rw [show decide (((l.getD i ByteArray.empty).size : Int) ≤ m) = false from decide_eq_false (by omega)]
      rfl
    · refine EV.neg hs ?_
      rw [show decide (((l.getD i ByteArray.empty).size : Int) ≤ m) = true from decide_eq_true (by omega), Bool.true_and]
      exact few_l0 l m hl j (i + 1) (by omega)
theorem few_ev (l : List ByteArray) (n m : Int) (hn : n ≤ 1000) : EV (fun k => mosaiclaw03_few.f k l n m) (fewOf l n m) := by
  unfold mosaiclaw03_few.f fewOf
  by_cases h : (l.length : Int) > n
  · rw [show decide ((l.length : Int) ≤ n) = false from by simp; omega]
    exact EV.pos h (EV.const _)
  · rw [show decide ((l.length : Int) ≤ n) = true from by simp; omega, Bool.true_and]
    exact EV.neg h (few_l0 l m (by omega) l.length 0 (by omega))
theorem few_true {l : List ByteArray} {n m : Nat} (h : fewOf l (n : Int) (m : Int) = true) : l.length ≤ n ∧ ∀ x ∈ l, x.size ≤ m := by
  unfold fewOf at h
  simp only [Bool.and_eq_true, decide_eq_true_eq, List.all_eq_true] at h
  exact ⟨by omega, fun x hx => by have := h.2 x hx; omega⟩
theorem awake_ev : EV (fun k => mosaiclaw03_awake.f k) true := by
  obtain ⟨a, ha⟩ : ∃ z : ByteArray, z = ⟨#[97]⟩ := ⟨_, rfl⟩
  obtain ⟨b, hb⟩ : ∃ z : ByteArray, z = ⟨#[98]⟩ := ⟨_, rfl⟩
  obtain ⟨c, hc⟩ : ∃ z : ByteArray, z = ⟨#[99]⟩ := ⟨_, rfl⟩
  have sa : a.size = 1 := by rw [ha]; rfl
  have sb : b.size = 1 := by rw [hb]; rfl
  have sc : c.size = 1 := by rw [hc]; rfl
  have hs : ∀ x ∈ [a, b, c], x.size ≤ 1024 := by
    intro x hx
    simp at hx
    rcases hx with rfl | rfl | rfl <;> omega
  unfold mosaiclaw03_awake.f
  rw [← ha, ← hb, ← hc]
  clear ha hb hc
  simp only [Option.bind_some]
  have hr : EV (fun k => merkle_Root.f k [a, b, c]) (SHA (kt (SHA (kt (SHA (lf a)) (SHA (lf b)))) (SHA (lf c))), 0) := (root_ev [a, b, c] (by simp) (by simp) hs).to (by simp [rootS, pairsS])
  have hp0 : EV (fun k => merkle_Path.f k [a, b, c] 0) ([SHA (lf b), SHA (lf c)], 0) := (path_ev [a, b, c] 0 (by simp) (by simp) hs).to (by simp [pathS, pairsS])
  have hp2 : EV (fun k => merkle_Path.f k [a, b, c] 2) ([SHA (kt (SHA (lf a)) (SHA (lf b)))], 0) := (path_ev [a, b, c] 2 (by simp) (by simp) hs).to (by simp [pathS, pairsS])
  refine EV.bind hr (EV.bind hp0 (EV.bind hp2 ?_))
  rw [leaf_f a (by omega), leaf_f b (by omega), leaf_f c (by omega)]
  simp only [Option.bind_some]
  have s32 := fun x => SHA_small x
  rw [Knot_f (SHA (lf a)) (SHA (lf b)) (by have := s32 (lf a); omega) (by have := s32 (lf b); omega)]
  simp only [Option.bind_some]
  rw [Knot_f (SHA (kt (SHA (lf a)) (SHA (lf b)))) (SHA (lf c)) (by have := s32 (kt (SHA (lf a)) (SHA (lf b))); omega) (by have := s32 (lf c); omega)]
  simp only [Option.bind_some]
  refine EV.now ?_
  have h32 : (SHA (kt (SHA (kt (SHA (lf a)) (SHA (lf b)))) (SHA (lf c)))).size = 32 := SHA_32 (by rw [kt_size]; have := s32 (kt (SHA (lf a)) (SHA (lf b))); have := s32 (lf c); omega)
  simp [rdOf, h32]
theorem text_size (l : List ByteArray) (hs : ∀ x ∈ l, x.size ≤ 1024) : ∀ t : Tree, (t.text SHA l).size ≤ 1025
  | .leaf j => by
    simp only [Tree.text, lf_size]
    by_cases h : j < l.length
    · have := hs _ (getD_mem l j h); omega
    · rw [List.getD_eq_getElem?_getD, List.getElem?_eq_none (by omega)]
      show 1 + 0 ≤ _
      omega
  | .knot a b => by
    simp only [Tree.text, kt_size]
    have := SHA_small (a.text SHA l)
    have := SHA_small (b.text SHA l)
    omega
theorem ev_size (l : List ByteArray) (hs : ∀ x ∈ l, x.size ≤ 1024) (t : Tree) : (t.ev SHA l).size = 32 := SHA_32 (by have := text_size l hs t; omega)
theorem digests_map (l : List ByteArray) : l.map (fun x => SHA (lf x)) = (leaves l.length).map (Tree.ev SHA l) := by
  apply List.ext_getElem
  · simp [leaves]
  · intro i h1 h2
    simp at h1
    simp [leaves, Tree.ev, Tree.text, List.getD_eq_getElem?_getD, h1]
theorem range_map (l : List ByteArray) : (List.range l.length).map (fun j => l.getD j ByteArray.empty) = l := by
  apply List.ext_getElem
  · simp
  · intro i h1 h2
    simp [List.getD_eq_getElem?_getD, h2]
/-- What the trees of up to 30 leaves give. -/
structure Facts (l : List ByteArray) (i : Nat) : Prop where
  len : (pathS SHA 8 (l.map fun x => SHA (lf x)) i).length = (sides 8 l.length i).length
  s32 : ∀ p ∈ pathS SHA 8 (l.map fun x => SHA (lf x)) i, p.size = 32
  root : (cl SHA (sides 8 l.length i) (SHA (lf (l.getD i ByteArray.empty))) (pathS SHA 8 (l.map fun x => SHA (lf x)) i)).1 = rootS SHA 9 (l.map fun x => SHA (lf x))
  td : rootS SHA 9 (l.map fun x => SHA (lf x)) = (tdS SHA l.length l).2
  last : (lf (l.getD i ByteArray.empty) :: (cl SHA (sides 8 l.length i) (SHA (lf (l.getD i ByteArray.empty))) (pathS SHA 8 (l.map fun x => SHA (lf x)) i)).2).getLast? = (tdS SHA l.length l).1.getLast?
  among : ∀ t ∈ lf (l.getD i ByteArray.empty) :: (cl SHA (sides 8 l.length i) (SHA (lf (l.getD i ByteArray.empty))) (pathS SHA 8 (l.map fun x => SHA (lf x)) i)).2, t ∈ (tdS SHA l.length l).1
theorem facts (l : List ByteArray) (i : Nat) (hi : i < l.length) (hn : l.length ≤ 30) (hs : ∀ x ∈ l, x.size ≤ 1024) : Facts l i := by
  have hg := good hn hi
  unfold goodAt at hg
  simp only [Bool.and_eq_true, beq_iff_eq, List.all_eq_true, List.contains_iff_mem] at hg
  obtain ⟨⟨⟨⟨⟨⟨g1, g2⟩, g3⟩, g4⟩, g5⟩, g6⟩, g7⟩ := hg
  have hlv : (leaves l.length).length = l.length := by simp [leaves]
  have hP : pathS SHA 8 (l.map fun x => SHA (lf x)) i = (pathT 8 (leaves l.length) i).map (Tree.ev SHA l) := by rw [digests_map, path_map]
  have hR : rootS SHA 9 (l.map fun x => SHA (lf x)) = (rootT 9 (leaves l.length)).ev SHA l := by
    rw [digests_map]
    exact root_map SHA l 8 _ (by omega) (by omega)
  have hC : cl SHA (sides 8 l.length i) (SHA (lf (l.getD i ByteArray.empty))) (pathS SHA 8 (l.map fun x => SHA (lf x)) i) = ((clT (sides 8 l.length i) (.leaf i) (pathT 8 (leaves l.length) i)).1.ev SHA l, (clT (sides 8 l.length i) (.leaf i) (pathT 8 (leaves l.length) i)).2.map (Tree.text SHA l)) := by
    rw [hP]
    exact cl_map SHA l (sides 8 l.length i) (.leaf i) _
  have hT := td_map SHA l l.length (List.range l.length) (by simpa using (by omega : 0 < l.length)) (by simp) (by simp)
  rw [range_map] at hT
  have hcons : lf (l.getD i ByteArray.empty) :: (clT (sides 8 l.length i) (.leaf i) (pathT 8 (leaves l.length) i)).2.map (Tree.text SHA l) = (Tree.leaf i :: (clT (sides 8 l.length i) (.leaf i) (pathT 8 (leaves l.length) i)).2).map (Tree.text SHA l) := rfl
  refine ⟨?_, ?_, ?_, ?_, ?_, ?_⟩
  · rw [hP, List.length_map, g3]
  · rw [hP]
    intro p hp
    obtain ⟨t, _, rfl⟩ := List.mem_map.1 hp
    exact ev_size l hs t
  · rw [hC, hR, g2]
  · rw [hR, hT, g1]
  · rw [hC, hT, hcons, List.getLast?_map, List.getLast?_map, g5, g6]
  · rw [hC, hT, hcons]
    intro t ht
    obtain ⟨u, hu, rfl⟩ := List.mem_map.1 ht
    refine List.mem_map.2 ⟨u, ?_, rfl⟩
    rcases List.mem_cons.1 hu with rfl | hu
    · exact g7
    · exact g4 u hu
theorem idx (a : Int) (n : Nat) (hn : 0 < n) (hn2 : n ≤ 1000) : ∃ i : Nat, i < n ∧ Int.tmod (wrap64 (Int.tmod a (n : Int) + (n : Int))) (n : Int) = (i : Int) := by
  have h1 := Int.tmod_lt_of_pos a (b := (n : Int)) (by omega)
  have h2 : -(n : Int) < Int.tmod a (n : Int) := by
    have := Int.lt_tmod_of_pos a (b := (n : Int)) (by omega)
    exact this
  rw [w64 _ (by omega) (by omega), Int.tmod_eq_emod_of_nonneg (by omega)]
  have h3 := Int.emod_nonneg (Int.tmod a (n : Int) + (n : Int)) (b := (n : Int)) (by omega)
  have h4 := Int.emod_lt_of_pos (Int.tmod a (n : Int) + (n : Int)) (b := (n : Int)) (by omega)
  exact ⟨((Int.tmod a (n : Int) + (n : Int)) % (n : Int)).toNat, by omega, by omega⟩
theorem Texts_ev (l : List ByteArray) (h : 0 < l.length) (hl : l.length ≤ 256) (hs : ∀ x ∈ l, x.size ≤ 1024) : EV (fun k => merkle_Texts.f k l) (tdS SHA l.length l).1 := by
  unfold merkle_Texts.f
  rw [may_ok l h hl hs]
  simp only [Option.bind_some]
  exact EV.pos (by first | trivial | rfl) (EV.bind (texts_ev l.length l h (Nat.le_refl _) hl hs) (EV.const _))
end Go.Proofs.Ytaomblcecjaedaa.P
