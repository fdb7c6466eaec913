/- What the claim on this statement wants of the text YtaomblcecjaedaaTree. Not trusted: Lean checks it. -/
import Derived.Test.YtaomblcecjaedaaK4Px0
namespace Go.Proofs.Ytaomblcecjaedaa.P
/-- The text of a leaf. -/
def lf (x : ByteArray) : ByteArray := (⟨#[0]⟩ : ByteArray) ++ x
/-- The text of a knot. -/
def kt (a b : ByteArray) : ByteArray := ((⟨#[1]⟩ : ByteArray) ++ a) ++ b
inductive Tree where
  | leaf (j : Nat)
  | knot (a b : Tree)
  deriving DecidableEq
section
variable (H : ByteArray → ByteArray) (xs : List ByteArray)
/-- What is summed at a tree's top. -/
def Tree.text : Tree → ByteArray
  | .leaf j => lf (xs.getD j ByteArray.empty)
  | .knot a b => kt (H (a.text)) (H (b.text))
def Tree.ev (t : Tree) : ByteArray := H (t.text H xs)
def pairsS : List ByteArray → List ByteArray
  | a :: b :: r => H (kt a b) :: pairsS r
  | [a] => [a]
  | [] => []
def pairsT : List Tree → List Tree
  | a :: b :: r => .knot a b :: pairsT r
  | [a] => [a]
  | [] => []
theorem pairs_map : ∀ ts : List Tree, pairsS H (ts.map (Tree.ev H xs)) = (pairsT ts).map (Tree.ev H xs)
  | a :: b :: r => by
    simp only [List.map_cons, pairsS, pairsT, pairs_map r]
    rfl
  | [a] => rfl
  | [] => rfl
def rootS : Nat → List ByteArray → ByteArray
  | 0, _ => ByteArray.empty
  | f + 1, ds => if ds.length = 1 then ds.getD 0 ByteArray.empty else rootS f (pairsS H ds)
def rootT : Nat → List Tree → Tree
  | 0, _ => .leaf 0
  | f + 1, ds => if ds.length = 1 then ds.getD 0 (.leaf 0) else rootT f (pairsT ds)
/-- Whether the path's knot stands at the left, level by level. -/
def sides : Nat → Nat → Nat → List Bool
  | 0, _, _ => []
  | f + 1, n, i => if n ≤ 1 then [] else if (i ^^^ 1) < n then (i % 2 == 1) :: sides f ((n + 1) / 2) (i / 2) else sides f ((n + 1) / 2) (i / 2)
def pathS : Nat → List ByteArray → Nat → List ByteArray
  | 0, _, _ => []
  | f + 1, ds, i => if ds.length ≤ 1 then [] else if (i ^^^ 1) < ds.length then ds.getD (i ^^^ 1) ByteArray.empty :: pathS f (pairsS H ds) (i / 2) else pathS f (pairsS H ds) (i / 2)
def pathT : Nat → List Tree → Nat → List Tree
  | 0, _, _ => []
  | f + 1, ds, i => if ds.length ≤ 1 then [] else if (i ^^^ 1) < ds.length then ds.getD (i ^^^ 1) (.leaf 0) :: pathT f (pairsT ds) (i / 2) else pathT f (pairsT ds) (i / 2)
def cl : List Bool → ByteArray → List ByteArray → ByteArray × List ByteArray
  | s :: ss, d, p :: ps => ((cl ss (H (if s then kt p d else kt d p)) ps).1, (if s then kt p d else kt d p) :: (cl ss (H (if s then kt p d else kt d p)) ps).2)
  | [], d, _ => (d, [])
  | _ :: _, d, [] => (d, [])
def clT : List Bool → Tree → List Tree → Tree × List Tree
  | s :: ss, d, p :: ps => ((clT ss (if s then .knot p d else .knot d p) ps).1, (if s then .knot p d else .knot d p) :: (clT ss (if s then .knot p d else .knot d p) ps).2)
  | [], d, _ => (d, [])
  | _ :: _, d, [] => (d, [])
def halfF : Nat → Nat → Nat → Nat
  | 0, _, x => x
  | f + 1, n, x => if 2 * x < n then halfF f n (2 * x) else x
/-- The greatest power of two below a number. -/
def half (n : Nat) : Nat := halfF 9 n 1
/-- The texts of a list, and its sum, from the top. -/
def tdS : Nat → List ByteArray → List ByteArray × ByteArray
  | 0, _ => ([], ByteArray.empty)
  | f + 1, l => if l.length = 1 then ([lf (l.getD 0 ByteArray.empty)], H (lf (l.getD 0 ByteArray.empty))) else
      (((tdS f (l.take (half l.length))).1 ++ (tdS f (l.drop (half l.length))).1) ++ [kt (tdS f (l.take (half l.length))).2 (tdS f (l.drop (half l.length))).2], H (kt (tdS f (l.take (half l.length))).2 (tdS f (l.drop (half l.length))).2))
def tdT : Nat → List Nat → List Tree × Tree
  | 0, _ => ([], .leaf 0)
  | f + 1, l => if l.length = 1 then ([.leaf (l.getD 0 0)], .leaf (l.getD 0 0)) else
      (((tdT f (l.take (half l.length))).1 ++ (tdT f (l.drop (half l.length))).1) ++ [.knot (tdT f (l.take (half l.length))).2 (tdT f (l.drop (half l.length))).2], .knot (tdT f (l.take (half l.length))).2 (tdT f (l.drop (half l.length))).2)
theorem halfF_lt : ∀ (f n x : Nat), 0 < x → 0 < halfF f n x ∧ (x < n → halfF f n x < n)
  | 0, n, x, h => ⟨h, fun h => h⟩
  | f + 1, n, x, h => by
    unfold halfF
    split
    · rename_i h2
      obtain ⟨h3, h4⟩ := halfF_lt f n (2 * x) (by omega)
      exact ⟨h3, fun _ => h4 h2⟩
    · exact ⟨h, fun h => h⟩
theorem half_lt (n : Nat) : 0 < half n ∧ (1 < n → half n < n) := halfF_lt 9 n 1 (by decide)
theorem pairsT_len : ∀ ts : List Tree, (pairsT ts).length = (ts.length + 1) / 2
  | a :: b :: r => by simp only [pairsT, List.length_cons, pairsT_len r]; omega
  | [a] => by simp [pairsT]
  | [] => rfl
theorem pairsT_pos (ts : List Tree) (h : 0 < ts.length) : 0 < (pairsT ts).length := by rw [pairsT_len]; omega
theorem getD_map (ts : List Tree) (i : Nat) (h : i < ts.length) : (ts.map (Tree.ev H xs)).getD i ByteArray.empty = (ts.getD i (.leaf 0)).ev H xs := by
  simp [List.getD_eq_getElem?_getD, h]
theorem root_map : ∀ (f : Nat) (ts : List Tree), 0 < ts.length → ts.length ≤ 2 ^ f → rootS H (f + 1) (ts.map (Tree.ev H xs)) = (rootT (f + 1) ts).ev H xs
  | f, ts, h, hf => by
    unfold rootS rootT
    simp only [List.length_map]
    by_cases h1 : ts.length = 1
    · rw [if_pos h1, if_pos h1, getD_map _ _ _ _ h]
    · rw [if_neg h1, if_neg h1, pairs_map]
      cases f with
      | zero => simp at hf; omega
      | succ f => exact root_map f _ (pairsT_pos ts h) (by rw [pairsT_len, Nat.pow_succ] at *; omega)
theorem path_map : ∀ (f : Nat) (ts : List Tree) (i : Nat), pathS H f (ts.map (Tree.ev H xs)) i = (pathT f ts i).map (Tree.ev H xs)
  | 0, _, _ => rfl
  | f + 1, ts, i => by
    simp only [pathS, pathT, List.length_map]
    by_cases h1 : ts.length ≤ 1
    · rw [if_pos h1, if_pos h1]; rfl
    · rw [if_neg h1, if_neg h1]
      by_cases h2 : (i ^^^ 1) < ts.length
      · rw [if_pos h2, if_pos h2, getD_map _ _ _ _ h2, pairs_map, path_map f]; rfl
      · rw [if_neg h2, if_neg h2, pairs_map, path_map f]
theorem cl_map : ∀ (ss : List Bool) (d : Tree) (ps : List Tree), cl H ss (d.ev H xs) (ps.map (Tree.ev H xs)) = ((clT ss d ps).1.ev H xs, (clT ss d ps).2.map (Tree.text H xs))
  | [], d, ps => by cases ps <;> rfl
  | s :: ss, d, [] => rfl
  | s :: ss, d, p :: ps => by
    have e : (if s = true then kt (p.ev H xs) (d.ev H xs) else kt (d.ev H xs) (p.ev H xs)) = (if s = true then Tree.knot p d else Tree.knot d p).text H xs := by
      cases s <;> rfl
    simp only [List.map_cons, cl, clT, e]
    have ih := cl_map ss (if s = true then Tree.knot p d else Tree.knot d p) ps
    rw [show H ((if s = true then Tree.knot p d else Tree.knot d p).text H xs) = (if s = true then Tree.knot p d else Tree.knot d p).ev H xs from rfl, ih]
theorem td_map : ∀ (f : Nat) (js : List Nat), 0 < js.length → js.length ≤ f → (∀ j ∈ js, j < xs.length) →
    tdS H f (js.map fun j => xs.getD j ByteArray.empty) = ((tdT f js).1.map (Tree.text H xs), (tdT f js).2.ev H xs)
  | 0, js, h, hf, _ => by omega
  | f + 1, js, h, hf, hx => by
    have hh := half_lt js.length
    simp only [tdS, tdT, List.length_map]
    by_cases h1 : js.length = 1
    · rw [if_pos h1, if_pos h1]
      obtain ⟨j, rfl⟩ := List.length_eq_one_iff.1 h1
      rfl
    · rw [if_neg h1, if_neg h1, ← List.map_take, ← List.map_drop]
      have hp := hh.1
      have hq := hh.2 (by omega)
      rw [td_map f (js.take (half js.length)) (by rw [List.length_take]; omega) (by rw [List.length_take]; omega) (fun j hj => hx j (List.mem_of_mem_take hj)),
        td_map f (js.drop (half js.length)) (by rw [List.length_drop]; omega) (by rw [List.length_drop]; omega) (fun j hj => hx j (List.mem_of_mem_drop hj))]
      simp only [List.map_append, List.map_cons, List.map_nil]
      rfl
end
/-- The trees of the first n leaves. -/
def leaves (n : Nat) : List Tree := (List.range n).map Tree.leaf
/-- What is true of a list of so many leaves, at each of them: the fold of its path is the root; the root is the one from the top; the last text of the climb is the top's; each text of the climb is among those from the top. -/
def goodAt (n i : Nat) : Bool :=
  (rootT 9 (leaves n) == (tdT n (List.range n)).2) && ((clT (sides 8 n i) (.leaf i) (pathT 8 (leaves n) i)).1 == rootT 9 (leaves n)) && ((pathT 8 (leaves n) i).length == (sides 8 n i).length)
    && (clT (sides 8 n i) (.leaf i) (pathT 8 (leaves n) i)).2.all (fun t => (tdT n (List.range n)).1.contains t) && ((Tree.leaf i :: (clT (sides 8 n i) (.leaf i) (pathT 8 (leaves n) i)).2).getLast? == some (rootT 9 (leaves n))) && ((tdT n (List.range n)).1.getLast? == some (rootT 9 (leaves n))) && (tdT n (List.range n)).1.contains (.leaf i)
def goodAll (m : Nat) : Bool := (List.range m).all fun n => (List.range n).all fun i => goodAt n i
set_option maxRecDepth 100000 in
theorem good_all : goodAll 31 = true := by kernel_rfl
theorem good {n i : Nat} (hn : n ≤ 30) (hi : i < n) : goodAt n i = true := by
  have h := good_all
  unfold goodAll at h
  rw [List.all_eq_true] at h
  have := h n (by simp; omega)
  rw [List.all_eq_true] at this
  exact this i (by simpa using hi)
end Go.Proofs.Ytaomblcecjaedaa.P
