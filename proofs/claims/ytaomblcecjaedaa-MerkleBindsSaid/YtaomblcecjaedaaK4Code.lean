/- What the claim on this statement wants of the text YtaomblcecjaedaaCode. Not trusted: Lean checks it. -/
import Derived.Test.YtaomblcecjaedaaK4Tree
import Derived.Test.YtaomblcecjaedaaK4Px11
import Derived.Test.YtaomblcecjaedaaK4Px14
import Derived.Test.YtaomblcecjaedaaK4ERoot
namespace Go.Proofs.Ytaomblcecjaedaa.P
open Go.RowKit Go.Proofs.YtaomblcecjaedaaW.PrintWords
/-- With enough rounds it answers r. -/
def EV {α : Type} (g : Nat → Option α) (r : α) : Prop := ∃ K, ∀ k, K ≤ k → g k = some r
section
variable {α β : Type} {g g' : Nat → Option α} {r : α}
theorem EV.const (r : α) : EV (fun _ => some r) r := ⟨0, fun _ _ => rfl⟩
theorem EV.bind {h : Nat → α → Option β} {b : β} (hg : EV g r) (hh : EV (fun k => h k r) b) : EV (fun k => (g k).bind (h k)) b := by
  obtain ⟨K, hK⟩ := hg
  obtain ⟨L, hL⟩ := hh
  exact ⟨max K L, fun k hk => by show (g k).bind (h k) = some b; rw [hK k (by omega)]; exact hL k (by omega)⟩
theorem EV.succ (h : EV (fun k => g (k + 1)) r) : EV g r := by
  obtain ⟨K, hK⟩ := h
  refine ⟨K + 1, fun k hk => ?_⟩
  obtain ⟨j, rfl⟩ : ∃ j, k = j + 1 := ⟨k - 1, by omega⟩
  exact hK j (by omega)
theorem EV.pos {c : Prop} [Decidable c] (hc : c) (h : EV g r) : EV (fun k => if c then g k else g' k) r := by simpa only [if_pos hc] using h
theorem EV.neg {c : Prop} [Decidable c] (hc : ¬ c) (h : EV g' r) : EV (fun k => if c then g k else g' k) r := by simpa only [if_neg hc] using h
theorem EV.of_eq (he : ∀ k, g k = g' k) (h : EV g' r) : EV g r := by
  obtain ⟨K, hK⟩ := h
  exact ⟨K, fun k hk => (he k).trans (hK k hk)⟩
theorem EV.ex (h : EV g r) : ∃ k, g k = some r := by
  obtain ⟨K, hK⟩ := h
  exact ⟨K, hK K (Nat.le_refl _)⟩
theorem EV.to {r' : α} (h : EV g r) (e : r = r') : EV g r' := e ▸ h
theorem EV.now {x : Option α} (h : x = some r) : EV (fun _ => x) r := ⟨0, fun _ _ => h⟩
end
theorem w64 (x : Int) (h : -9223372036854775808 ≤ x) (h2 : x < 9223372036854775808) : wrap64 x = x := by unfold wrap64; omega
theorem rdOf_nat (l : List ByteArray) (i : Nat) : rdOf ByteArray.empty l (i : Int) = l.getD i ByteArray.empty := rfl
theorem drop_cons (l : List ByteArray) (i : Nat) (h : i < l.length) : l.drop i = l.getD i ByteArray.empty :: l.drop (i + 1) := by
  rw [List.drop_eq_getElem_cons h]
  simp [List.getD_eq_getElem?_getD, h]
theorem getD_mem (l : List ByteArray) (i : Nat) (h : i < l.length) : l.getD i ByteArray.empty ∈ l := by
  simp [List.getD_eq_getElem?_getD, h]
theorem SHA_size (s : ByteArray) : (SHA s).size = if 65536 < s.size then 0 else 32 := by
  unfold SHA
  split
  · rfl
  · rw [strOfNums_size, outN_len]
theorem SHA_small (s : ByteArray) : (SHA s).size ≤ 32 := by rw [SHA_size]; split <;> omega
theorem lf_size (x : ByteArray) : (lf x).size = 1 + x.size := by unfold lf; rw [ByteArray.size_append]; rfl
theorem kt_size (a b : ByteArray) : (kt a b).size = 1 + a.size + b.size := by unfold kt; rw [ByteArray.size_append, ByteArray.size_append]; rfl
theorem leaf_f (x : ByteArray) (h : x.size ≤ 100000) : merkle_Leaf.f x = some (SHA (lf x)) := by
  unfold merkle_Leaf.f
  rw [if_pos (by omega)]
  rfl
theorem knot_f (a b : ByteArray) (ha : a.size ≤ 2000) (hb : b.size ≤ 2000) : merkle_knot.f a b = some (kt a b) := by
  have := kt_size a b
  have e : ((⟨#[1]⟩ : ByteArray) ++ a).size = 1 + a.size := by rw [ByteArray.size_append]; rfl
  unfold merkle_knot.f
  rw [if_pos (by omega), if_pos (by omega)]
  rfl
theorem Knot_f (a b : ByteArray) (ha : a.size ≤ 2000) (hb : b.size ≤ 2000) : merkle_Knot.f a b = some (SHA (kt a b)) := by
  unfold merkle_Knot.f
  rw [knot_f a b ha hb]
  rfl
theorem digests_l0 (l : List ByteArray) (hl : l.length ≤ 256) (hs : ∀ x ∈ l, x.size ≤ 2000) : ∀ (m i : Nat) (acc : List ByteArray), i + m = l.length → acc.length ≤ i →
    EV (fun k => merkle_digests.l0 k acc l (l.length : Int) (i : Int)) (acc ++ (l.drop i).map fun x => SHA (lf x))
  | 0, i, acc, hm, ha => by
    refine EV.succ ?_
    simp only [merkle_digests.l0]
    refine EV.neg (by omega) ((EV.const _).to ?_)
    rw [List.drop_eq_nil_of_le (by omega)]
    simp
  | m + 1, i, acc, hm, ha => by
    refine EV.succ ?_
    simp only [merkle_digests.l0]
    refine EV.pos (by omega) (EV.pos (by omega) (EV.pos (by omega) ?_))
    rw [rdOf_nat, leaf_f _ (by have := hs _ (getD_mem l i (by omega)); omega), w64 _ (by omega) (by omega)]
    simp only [Option.bind_some]
    refine EV.pos (by omega) ?_
    have := digests_l0 l hl hs m (i + 1) (acc ++ [SHA (lf (l.getD i ByteArray.empty))]) (by omega) (by simp; omega)
    refine EV.to this ?_
    rw [drop_cons l i (by omega)]
    simp
theorem digests_ev (l : List ByteArray) (hl : l.length ≤ 256) (hs : ∀ x ∈ l, x.size ≤ 2000) : EV (fun k => merkle_digests.f k l) (l.map fun x => SHA (lf x)) := by
  have := digests_l0 l hl hs l.length 0 [] (by omega) (by simp)
  simpa [merkle_digests.f] using this
theorem pairs_l0 (x : List ByteArray) (hl : x.length ≤ 256) (hs : ∀ d ∈ x, d.size ≤ 2000) : ∀ (m i : Nat) (acc : List ByteArray), x.length ≤ i + m → i ≤ x.length + 1 → acc.length ≤ i →
    EV (fun k => merkle_pairs.l0 k x acc (i : Int)) (acc ++ pairsS SHA (x.drop i))
  | 0, i, acc, hm, hi, ha => by
    refine EV.succ ?_
    simp only [merkle_pairs.l0]
    refine EV.neg (by omega) ((EV.const _).to ?_)
    rw [List.drop_eq_nil_of_le (by omega)]
    simp [pairsS]
  | m + 1, i, acc, hm, hi, ha => by
    by_cases hlt : i < x.length
    · refine EV.succ ?_
      simp only [merkle_pairs.l0]
      refine EV.pos (by omega) ?_
      rw [w64 ((i : Int) + 1) (by omega) (by omega), w64 ((i : Int) + 2) (by omega) (by omega)]
      by_cases h1 : i + 1 = x.length
      · refine EV.pos (by omega) (EV.pos (by omega) (EV.pos (by omega) ?_))
        have := pairs_l0 x hl hs m (i + 2) (acc ++ [x.getD i ByteArray.empty]) (by omega) (by omega) (by simp; omega)
        refine EV.to this ?_
        rw [drop_cons x i (by omega), List.drop_eq_nil_of_le (by omega : x.length ≤ i + 2), List.drop_eq_nil_of_le (by omega : x.length ≤ i + 1)]
        simp [pairsS]
      · refine EV.neg (by omega) (EV.pos (by omega) (EV.pos (by omega) (EV.pos (by omega) ?_)))
        rw [rdOf_nat, show ((i : Int) + 1) = ((i + 1 : Nat) : Int) from by omega, rdOf_nat, Knot_f _ _ (hs _ (getD_mem x i (by omega))) (hs _ (getD_mem x (i + 1) (by omega)))]
        simp only [Option.bind_some]
        refine EV.pos (by omega) ?_
        have := pairs_l0 x hl hs m (i + 2) (acc ++ [SHA (kt (x.getD i ByteArray.empty) (x.getD (i + 1) ByteArray.empty))]) (by omega) (by omega) (by simp; omega)
        refine EV.to this ?_
        rw [drop_cons x i (by omega), drop_cons x (i + 1) (by omega)]
        simp [pairsS]
    · refine EV.succ ?_
      simp only [merkle_pairs.l0]
      refine EV.neg (by omega) ((EV.const _).to ?_)
      rw [List.drop_eq_nil_of_le (by omega)]
      simp [pairsS]
theorem pairs_ev (x : List ByteArray) (hl : x.length ≤ 256) (hs : ∀ d ∈ x, d.size ≤ 2000) : EV (fun k => merkle_pairs.f k x) (pairsS SHA x) := by
  have := pairs_l0 x hl hs x.length 0 [] (by omega) (by omega) (by simp)
  simpa [merkle_pairs.f] using this
theorem pairsS_len (H : ByteArray → ByteArray) : ∀ ds : List ByteArray, (pairsS H ds).length = (ds.length + 1) / 2
  | a :: b :: r => by simp only [pairsS, List.length_cons, pairsS_len H r]; omega
  | [a] => by simp [pairsS]
  | [] => rfl
theorem pairsS_small : ∀ ds : List ByteArray, (∀ d ∈ ds, d.size ≤ 2000) → ∀ d ∈ pairsS SHA ds, d.size ≤ 2000
  | a :: b :: r, h, d, hd => by
    simp only [pairsS, List.mem_cons] at hd
    rcases hd with rfl | hd
    · have := SHA_small (kt a b); omega
    · exact pairsS_small r (fun d hd => h d (by simp [hd])) d hd
  | [a], h, d, hd => h d hd
  | [], _, d, hd => by simp [pairsS] at hd
theorem root_l0 : ∀ (f : Nat) (ds : List ByteArray), 0 < ds.length → ds.length ≤ 2 ^ f → ds.length ≤ 256 → (∀ d ∈ ds, d.size ≤ 2000) → EV (fun k => merkle_Root.l0 k ds) (rootS SHA (f + 1) ds, 0)
  | f, ds, h0, hf, hl, hs => by
    refine EV.succ ?_
    simp only [merkle_Root.l0, rootS]
    by_cases h1 : ds.length = 1
    · rw [if_pos h1]
      exact EV.pos h1 (EV.const _)
    · rw [if_neg h1]
      refine EV.neg h1 (EV.bind (pairs_ev ds hl hs) ?_)
      cases f with
      | zero => simp at hf; omega
      | succ f => exact root_l0 f _ (by rw [pairsS_len]; omega) (by rw [pairsS_len, Nat.pow_succ] at *; omega) (by rw [pairsS_len]; omega) (pairsS_small ds hs)
theorem may_ok (l : List ByteArray) (h : 0 < l.length) (hl : l.length ≤ 256) (hs : ∀ x ∈ l, x.size ≤ 1024) : merkle_may.f l = some 0 := by
  unfold merkle_may.f mayOf
  rw [if_neg (by omega), if_neg (by omega), if_neg]
  simp only [List.any_eq_true, decide_eq_true_eq, not_exists, not_and]
  intro x hx
  have := hs x hx
  omega
theorem root_ev (l : List ByteArray) (h : 0 < l.length) (hl : l.length ≤ 256) (hs : ∀ x ∈ l, x.size ≤ 1024) : EV (fun k => merkle_Root.f k l) (rootS SHA 9 (l.map fun x => SHA (lf x)), 0) := by
  unfold merkle_Root.f
  rw [may_ok l h hl hs]
  simp only [Option.bind_some]
  refine EV.pos (by first | trivial | rfl) (EV.bind (digests_ev l hl (fun x hx => by have := hs x hx; omega)) ?_)
  refine root_l0 8 _ (by simpa using h) (by simpa using hl) (by simpa using hl) ?_
  intro d hd
  obtain ⟨x, _, rfl⟩ := List.mem_map.1 hd
  have := SHA_small (lf x)
  omega
theorem xor_one (i : Nat) (h : i < 256) : Go.bits .xor .i64 (i : Int) 1 = ((i ^^^ 1 : Nat) : Int) := by
  have : ∀ i : Fin 256, Go.bits .xor .i64 ((i.1 : Nat) : Int) 1 = ((i.1 ^^^ 1 : Nat) : Int) := by decide +kernel
  exact this ⟨i, h⟩
theorem tdiv2 (i : Nat) (h : i < 100000) : wrap64 (Int.tdiv (i : Int) 2) = ((i / 2 : Nat) : Int) := by
  rw [Int.tdiv_eq_ediv_of_nonneg (by omega), w64 _ (by omega) (by omega)]
  rfl
theorem tdiv2' (n : Nat) (h : n < 90000) : wrap64 (Int.tdiv (wrap64 ((n : Int) + 1)) 2) = (((n + 1) / 2 : Nat) : Int) := by
  rw [w64 ((n : Int) + 1) (by omega) (by omega), show ((n : Int) + 1) = ((n + 1 : Nat) : Int) from by omega]
  exact tdiv2 (n + 1) (by omega)
theorem in_ok (n i : Nat) (hn : n ≤ 256) (hi : i < n) : merkle_in.f (n : Int) (i : Int) = some true := by
  unfold merkle_in.f
  rw [if_pos (by omega), if_pos (by omega), if_pos (by omega)]
  simp; omega
theorem path_l0 : ∀ (f : Nat) (ds acc : List ByteArray) (i : Nat), i < ds.length → ds.length ≤ 2 ^ f → ds.length ≤ 256 → (∀ d ∈ ds, d.size ≤ 2000) → acc.length + f ≤ 100 →
    EV (fun k => merkle_Path.l0 k (i : Int) acc ds) (acc ++ pathS SHA f ds i, 0)
  | f, ds, acc, i, hi, hf, hl, hs, ha => by
    refine EV.succ ?_
    simp only [merkle_Path.l0]
    rw [xor_one i (by omega), tdiv2 i (by omega)]
    by_cases h1 : ds.length ≤ 1
    · refine EV.neg (by omega) ((EV.const _).to ?_)
      cases f with
      | zero => simp [pathS]
      | succ f => simp only [pathS]; rw [if_pos h1]; simp
    · cases f with
      | zero => simp at hf; omega
      | succ f =>
        simp only [pathS]
        rw [if_neg h1]
        refine EV.pos (by omega) ?_
        have ih := fun acc' ha' => path_l0 f (pairsS SHA ds) acc' (i / 2) (by rw [pairsS_len]; omega) (by rw [pairsS_len, Nat.pow_succ] at *; omega) (by rw [pairsS_len]; omega) (pairsS_small ds hs) ha'
        by_cases h2 : (i ^^^ 1) < ds.length
        · rw [if_pos h2]
          refine EV.pos (by omega) (EV.pos (by omega) (EV.pos (by omega) (EV.bind (pairs_ev ds hl hs) ?_)))
          refine (ih (acc ++ [ds.getD (i ^^^ 1) ByteArray.empty]) (by simp; omega)).to ?_
          simp
        · rw [if_neg h2]
          refine EV.neg (by omega) (EV.bind (pairs_ev ds hl hs) ?_)
          exact ih acc (by omega)
theorem path_ev (l : List ByteArray) (i : Nat) (hi : i < l.length) (hl : l.length ≤ 256) (hs : ∀ x ∈ l, x.size ≤ 1024) : EV (fun k => merkle_Path.f k l (i : Int)) (pathS SHA 8 (l.map fun x => SHA (lf x)) i, 0) := by
  unfold merkle_Path.f
  rw [may_ok l (by omega) hl hs]
  simp only [Option.bind_some]
  refine EV.pos (by first | trivial | rfl) ?_
  rw [in_ok l.length i hl hi]
  simp only [Option.bind_some]
  refine EV.pos (by first | trivial | rfl) (EV.bind (digests_ev l hl (fun x hx => by have := hs x hx; omega)) ?_)
  have := path_l0 8 (l.map fun x => SHA (lf x)) [] i (by simpa using hi) (by simpa using hl) (by simpa using hl) (by
    intro d hd
    obtain ⟨x, _, rfl⟩ := List.mem_map.1 hd
    have := SHA_small (lf x)
    omega) (by simp)
  simpa using this
theorem depth_l0 : ∀ (f n i acc : Nat), i < n → n ≤ 2 ^ f → n ≤ 256 → acc + f ≤ 100 → EV (fun k => merkle_Depth.l0 k (n : Int) (i : Int) (acc : Int)) (((acc + (sides f n i).length : Nat) : Int))
  | f, n, i, acc, hi, hf, hn, ha => by
    refine EV.succ ?_
    simp only [merkle_Depth.l0]
    rw [xor_one i (by omega), tdiv2 i (by omega), tdiv2' n (by omega)]
    by_cases h1 : n ≤ 1
    · refine EV.neg (by omega) ((EV.const _).to ?_)
      cases f with
      | zero => simp [sides]
      | succ f => simp only [sides]; rw [if_pos h1]; simp
    · cases f with
      | zero => simp at hf; omega
      | succ f =>
        simp only [sides]
        rw [if_neg h1]
        refine EV.pos (by omega) ?_
        have ih := fun acc' ha' => depth_l0 f ((n + 1) / 2) (i / 2) acc' (by omega) (by rw [Nat.pow_succ] at hf; omega) (by omega) ha'
        by_cases h2 : (i ^^^ 1) < n
        · rw [if_pos h2, w64 _ (by omega) (by omega)]
          refine EV.pos (by omega) ?_
          refine EV.to (ih (acc + 1) (by omega)) ?_
          simp only [List.length_cons]
          omega
        · rw [if_neg h2]
          exact EV.neg (by omega) (ih acc (by omega))
theorem depth_ev (n i : Nat) (hi : i < n) (hn : n ≤ 256) : EV (fun k => merkle_Depth.f k (n : Int) (i : Int)) (((sides 8 n i).length : Nat) : Int) := by
  unfold merkle_Depth.f
  rw [in_ok n i hn hi]
  simp only [Option.bind_some]
  refine EV.pos (by first | trivial | rfl) ?_
  have := depth_l0 8 n i 0 hi hn hn (by omega)
  simpa using this
theorem climb_l0 : ∀ (f n i : Nat) (d : ByteArray) (ps tx : List ByteArray), i < n → n ≤ 2 ^ f → n ≤ 256 → ps.length = (sides f n i).length → d.size ≤ 2000 → (∀ p ∈ ps, p.size ≤ 2000) → tx.length + f ≤ 100 →
    EV (fun k => merkle_climb.l0 k (n : Int) (i : Int) d ps tx) ((cl SHA (sides f n i) d ps).1, tx ++ (cl SHA (sides f n i) d ps).2)
  | f, n, i, d, ps, tx, hi, hf, hn, hp, hd, hs, ht => by
    refine EV.succ ?_
    simp only [merkle_climb.l0]
    rw [xor_one i (by omega), tdiv2 i (by omega), tdiv2' n (by omega)]
    by_cases h1 : n ≤ 1
    · refine EV.neg (by omega) ((EV.const _).to ?_)
      have : sides f n i = [] := by
        cases f with
        | zero => rfl
        | succ f => simp only [sides]; rw [if_pos h1]
      rw [this]
      cases ps <;> simp [cl]
    · cases f with
      | zero => simp at hf; omega
      | succ f =>
        simp only [sides] at hp ⊢
        rw [if_neg h1] at hp ⊢
        refine EV.pos (by omega) ?_
        by_cases h2 : (i ^^^ 1) < n
        · rw [if_pos h2] at hp ⊢
          cases ps with
          | nil => simp at hp
          | cons p ps =>
            have hp0 := hs p (by simp)
            have hk : ∀ z, (SHA z).size ≤ 2000 := fun z => by have := SHA_small z; omega
            have ih := fun t => climb_l0 f ((n + 1) / 2) (i / 2) (SHA t) ps (tx ++ [t]) (by omega) (by rw [Nat.pow_succ] at hf; omega) (by omega) (by simpa using hp) (hk t) (fun q hq => hs q (by simp [hq])) (by simp; omega)
            have e0 : rdOf ByteArray.empty (p :: ps) 0 = p := rfl
            refine EV.neg (by omega) (EV.pos (by simp only [List.length_cons]; omega) ?_)
            rw [e0, knot_f d p hd hp0]
            simp only [Option.bind_some]
            have ht2 : Int.tmod (i : Int) 2 = ((i % 2 : Nat) : Int) := tmod_nat i 2
            by_cases h3 : i % 2 = 1
            · rw [show (i % 2 == 1) = true from by simp [h3]]
              refine EV.pos (by rw [ht2, h3]; rfl) ?_
              rw [knot_f p d hp0 hd]
              simp only [Option.bind_some]
              refine EV.pos (by omega) ?_
              show EV (fun k => (some (SHA (kt p d))).bind fun t178 => _) _
              simp only [Option.bind_some]
              refine EV.pos (by simp; omega) ((ih (kt p d)).to ?_)
              simp [cl]
            · rw [show (i % 2 == 1) = false from by simp [h3]]
              refine EV.neg (by rw [ht2]; omega) ?_
              refine EV.pos (by omega) ?_
              show EV (fun k => (some (SHA (kt d p))).bind fun t178 => _) _
              simp only [Option.bind_some]
              refine EV.pos (by simp; omega) ((ih (kt d p)).to ?_)
              simp [cl]
        · rw [if_neg h2] at hp ⊢
          refine EV.pos (by omega) ?_
          exact climb_l0 f ((n + 1) / 2) (i / 2) d ps tx (by omega) (by rw [Nat.pow_succ] at hf; omega) (by omega) hp hd hs (by omega)
theorem climb_ev (n i : Nat) (d : ByteArray) (ps : List ByteArray) (hi : i < n) (hn : n ≤ 256) (hp : ps.length = (sides 8 n i).length) (hd : d.size ≤ 2000) (hs : ∀ p ∈ ps, p.size ≤ 2000) :
    EV (fun k => merkle_climb.f k (n : Int) (i : Int) d ps) (cl SHA (sides 8 n i) d ps) := by
  unfold merkle_climb.f
  have := climb_l0 8 n i d ps [] hi hn hn hp hd hs (by simp)
  simpa using this
theorem folds_ok (n i : Nat) (d : ByteArray) (ps : List ByteArray) (hi : i < n) (hn : n ≤ 256) (hp : ps.length = (sides 8 n i).length) (hd : d.size = 32) (hs : ∀ p ∈ ps, p.size = 32) : EV (fun k => merkle_folds.f k (n : Int) (i : Int) d ps) 0 := by
  unfold merkle_folds.f
  rw [in_ok n i hn hi]
  simp only [Option.bind_some]
  refine EV.pos (by first | trivial | rfl) (EV.pos (by omega) (EV.bind (depth_ev n i hi hn) ((EV.const _).to ?_)))
  rw [if_pos (by omega), if_neg]
  simp only [List.any_eq_true, decide_eq_true_eq, not_exists, not_and]
  intro x hx h
  have := hs x hx
  omega
theorem fold_ok (n i : Nat) (d : ByteArray) (ps : List ByteArray) (hi : i < n) (hn : n ≤ 256) (hp : ps.length = (sides 8 n i).length) (hd : d.size = 32) (hs : ∀ p ∈ ps, p.size = 32) :
    EV (fun k => merkle_Fold.f k (n : Int) (i : Int) d ps) ((cl SHA (sides 8 n i) d ps).1, 0) := by
  unfold merkle_Fold.f
  refine EV.bind (folds_ok n i d ps hi hn hp hd hs) (EV.pos (by first | trivial | rfl) (EV.bind (climb_ev n i d ps hi hn hp (by omega) (fun p hq => by have := hs p hq; omega)) (EV.const _)))
theorem check_ok (root : ByteArray) (n i : Nat) (d : ByteArray) (ps : List ByteArray) (hi : i < n) (hn : n ≤ 256) (hp : ps.length = (sides 8 n i).length) (hd : d.size = 32) (hs : ∀ p ∈ ps, p.size = 32) :
    EV (fun k => merkle_Check.f k root (n : Int) (i : Int) d ps) ((cl SHA (sides 8 n i) d ps).1.toList == root.toList) := by
  unfold merkle_Check.f
  exact EV.bind (fold_ok n i d ps hi hn hp hd hs) (EV.pos (by first | trivial | rfl) (EV.const _))
theorem Climb_ok (n i : Nat) (d : ByteArray) (ps : List ByteArray) (hi : i < n) (hn : n ≤ 256) (hp : ps.length = (sides 8 n i).length) (hd : d.size = 32) (hs : ∀ p ∈ ps, p.size = 32) :
    EV (fun k => merkle_Climb.f k (n : Int) (i : Int) d ps) (cl SHA (sides 8 n i) d ps).2 := by
  unfold merkle_Climb.f
  exact EV.bind (folds_ok n i d ps hi hn hp hd hs) (EV.pos (by first | trivial | rfl) (EV.bind (climb_ev n i d ps hi hn hp (by omega) (fun p hq => by have := hs p hq; omega)) (EV.const _)))
theorem cl_len (H : ByteArray → ByteArray) : ∀ (ss : List Bool) (d : ByteArray) (ps : List ByteArray), (cl H ss d ps).2.length ≤ ss.length
  | [], d, ps => by cases ps <;> simp [cl]
  | s :: ss, d, [] => by simp [cl]
  | s :: ss, d, p :: ps => by
    simp only [cl, List.length_cons]
    have := cl_len H ss (H (if s then kt p d else kt d p)) ps
    omega
theorem sides_len : ∀ (f n i : Nat), (sides f n i).length ≤ f
  | 0, _, _ => by simp [sides]
  | f + 1, n, i => by
    simp only [sides]
    split
    · simp
    · split
      · have := sides_len f ((n + 1) / 2) (i / 2); simp; omega
      · have := sides_len f ((n + 1) / 2) (i / 2); omega
theorem road_ok (n i : Nat) (x : ByteArray) (ps : List ByteArray) (hi : i < n) (hn : n ≤ 256) (hx : x.size ≤ 2000) (hp : ps.length = (sides 8 n i).length) (hs : ∀ p ∈ ps, p.size = 32) :
    EV (fun k => merkle_Road.f k (n : Int) (i : Int) x ps) (lf x :: (cl SHA (sides 8 n i) (SHA (lf x)) ps).2) := by
  have h32 : (SHA (lf x)).size = 32 := by rw [SHA_size, if_neg (by rw [lf_size]; omega)]
  unfold merkle_Road.f
  rw [leaf_f x (by omega)]
  simp only [Option.bind_some]
  refine EV.bind (folds_ok n i _ ps hi hn hp h32 hs) (EV.pos (by first | trivial | rfl) (EV.pos (by omega) (EV.bind (Climb_ok n i _ ps hi hn hp h32 hs) ?_)))
  refine EV.pos ?_ (EV.const _)
  have h1 := cl_len SHA (sides 8 n i) (SHA (lf x)) ps
  have h2 := sides_len 8 n i
  simp only [List.length_cons, List.length_nil]
  omega
theorem SHA_32 {s : ByteArray} (h : s.size ≤ 65536) : (SHA s).size = 32 := by rw [SHA_size, if_neg (by omega)]
theorem tdS_len (H : ByteArray → ByteArray) : ∀ (f : Nat) (l : List ByteArray), 0 < l.length → (tdS H f l).1.length + 1 ≤ 2 * l.length
  | 0, l, _ => by simp [tdS]; omega
  | f + 1, l, h0 => by
    have hh := half_lt l.length
    simp only [tdS]
    split
    · simp; omega
    · rename_i h1
      have hp := hh.1
      have hq := hh.2 (by omega)
      have hl := tdS_len H f (l.take (half l.length)) (by rw [List.length_take]; omega)
      have hr := tdS_len H f (l.drop (half l.length)) (by rw [List.length_drop]; omega)
      rw [List.length_take] at hl
      rw [List.length_drop] at hr
      simp only [List.length_append, List.length_cons, List.length_nil]
      omega
theorem tdS_small : ∀ (f : Nat) (l : List ByteArray), (tdS SHA f l).2.size ≤ 32
  | 0, l => by simp [tdS]
  | f + 1, l => by
    simp only [tdS]
    split <;> exact SHA_small _
theorem texts_ev : ∀ (m : Nat) (l : List ByteArray), 0 < l.length → l.length ≤ m → l.length ≤ 256 → (∀ x ∈ l, x.size ≤ 1024) → EV (fun k => merkle_texts.f k l) (tdS SHA m l)
  | 0, l, h0, hm, _, _ => by omega
  | m + 1, l, h0, hm, hl, hs => by
    have hh := half_lt l.length
    refine EV.succ ?_
    simp only [merkle_texts.f, tdS]
    by_cases h1 : l.length = 1
    · rw [if_pos h1]
      have hx := hs _ (getD_mem l 0 h0)
      have e0 : rdOf ByteArray.empty l 0 = l.getD 0 ByteArray.empty := rfl
      rw [e0, leaf_f _ (by omega)]
      simp only [Option.bind_some]
      exact EV.pos (by omega) (EV.pos (by omega) (EV.pos (by omega) (EV.const _)))
    · rw [if_neg h1]
      refine EV.neg (by omega) ?_
      have hq := hh.2 (by omega)
      have hp := hh.1
      have last : ∀ x : Nat, x = half l.length → EV (fun k => if 0 ≤ (x : Int) then (if (x : Int) ≤ (l.length : Int) then ((merkle_texts.f k (l.take (x : Int).toNat)).bind fun bt384 => ((merkle_texts.f k (l.drop (x : Int).toNat)).bind fun bt389 => ((merkle_knot.f bt384.2 bt389.2).bind fun t393 => ((slices_Concat_string_string.f (([bt384.1, bt389.1] : List (List ByteArray)))).bind fun t397 => (if t397.length < 8796093022208 then ((sha_Sum.f t393).bind fun t403 => (some ((t397 ++ [t393]), t403))) else (none)))))) else (none)) else (none))
          (((tdS SHA m (l.take (half l.length))).1 ++ (tdS SHA m (l.drop (half l.length))).1) ++ [kt (tdS SHA m (l.take (half l.length))).2 (tdS SHA m (l.drop (half l.length))).2], SHA (kt (tdS SHA m (l.take (half l.length))).2 (tdS SHA m (l.drop (half l.length))).2)) := by
        intro x hx
        rw [← hx] at hp hq ⊢
        have hL := texts_ev m (l.take x) (by rw [List.length_take]; omega) (by rw [List.length_take]; omega) (by rw [List.length_take]; omega) (fun y hy => hs y (List.mem_of_mem_take hy))
        have hR := texts_ev m (l.drop x) (by rw [List.length_drop]; omega) (by rw [List.length_drop]; omega) (by rw [List.length_drop]; omega) (fun y hy => hs y (List.mem_of_mem_drop hy))
        have nL := tdS_len SHA m (l.take x) (by rw [List.length_take]; omega)
        have nR := tdS_len SHA m (l.drop x) (by rw [List.length_drop]; omega)
        rw [List.length_take] at nL
        rw [List.length_drop] at nR
        have sL := tdS_small m (l.take x)
        have sR := tdS_small m (l.drop x)
        simp only [Int.toNat_natCast]
        refine EV.pos (by omega) (EV.pos (by omega) (EV.bind hL (EV.bind hR ?_)))
        rw [knot_f _ _ (by omega) (by omega)]
        simp only [Option.bind_some]
        have hcat : slices_Concat_string_string.f [(tdS SHA m (l.take x)).1, (tdS SHA m (l.drop x)).1] = some ((tdS SHA m (l.take x)).1 ++ (tdS SHA m (l.drop x)).1) := by
          unfold slices_Concat_string_string.f
          rw [if_pos (by simp only [lensOf]; omega)]
          simp
        rw [hcat]
        simp only [Option.bind_some]
        refine EV.pos (by rw [List.length_append]; omega) (EV.const _)
      have loop : ∀ (f x : Nat), 0 < x → x < l.length → l.length ≤ 2 ^ (f + 1) * x → halfF f l.length x = half l.length →
          EV (fun k => merkle_texts.l0 k l (x : Int)) (((tdS SHA m (l.take (half l.length))).1 ++ (tdS SHA m (l.drop (half l.length))).1) ++ [kt (tdS SHA m (l.take (half l.length))).2 (tdS SHA m (l.drop (half l.length))).2], SHA (kt (tdS SHA m (l.take (half l.length))).2 (tdS SHA m (l.drop (half l.length))).2)) := by
        intro f
        induction f with
        | zero =>
          intro x hx hxl hf he
          refine EV.succ ?_
          simp only [merkle_texts.l0]
          rw [w64 (2 * (x : Int)) (by omega) (by omega)]
          refine EV.neg (by simp at hf; omega) ?_
          rw [show halfF 0 l.length x = x from rfl] at he
          exact last x he
        | succ f ih =>
          intro x hx hxl hf he
          refine EV.succ ?_
          simp only [merkle_texts.l0]
          rw [w64 (2 * (x : Int)) (by omega) (by omega), w64 ((x : Int) * 2) (by omega) (by omega)]
          simp only [halfF] at he
          by_cases h2 : 2 * x < l.length
          · rw [if_pos h2] at he
            refine EV.pos (by omega) ?_
            rw [show (x : Int) * 2 = ((2 * x : Nat) : Int) from by omega]
            exact ih (2 * x) (by omega) h2 (by rw [Nat.pow_succ] at hf; rw [← Nat.mul_assoc]; exact hf) he
          · rw [if_neg h2] at he
            refine EV.neg (by omega) ?_
            exact last x he
      unfold half at loop hp hq ⊢
      exact loop 9 1 (by omega) (by omega) (by simp; omega) rfl
end Go.Proofs.Ytaomblcecjaedaa.P
