/- What the claim on this statement wants of the text YtaomblcecjaedaaFoldsPure. Not trusted: Lean checks it. -/
import Derived.Test.YtaomblcecjaedaaK2ProvesPure
import Derived.Test.YtaomblcecjaedaaK2ShaRef
import Derived.Test.YtaomblcecjaedaaK2Px12
namespace Go.Proofs.Ytaomblcecjaedaa.P
open Go.RowKit Go.Proofs.YtaomblcecjaedaaW.PrintWords
/-- The sides of a path, from the top. -/
def sidesTD : Nat → Nat → Nat → List Bool
  | 0, _, _ => []
  | f + 1, n, i => if n ≤ 1 then [] else if i < half n then sidesTD f (half n) i ++ [false] else sidesTD f (n - half n) (i - half n) ++ [true]
theorem xor1 (i : Nat) (h : i < 256) : i ^^^ 1 = if i % 2 = 0 then i + 1 else i - 1 := by
  have : ∀ i : Fin 256, i.1 ^^^ 1 = if i.1 % 2 = 0 then i.1 + 1 else i.1 - 1 := by decide +kernel
  exact this ⟨i, h⟩
theorem half_pow (n f : Nat) (hn : n ≤ 256) (hf : f < 8) (h : n ≤ 2 ^ (f + 1)) : half n ≤ 2 ^ f := by
  have : ∀ n : Fin 257, ∀ f : Fin 8, n.1 ≤ 2 ^ (f.1 + 1) → half n.1 ≤ 2 ^ f.1 := by decide +kernel
  exact this ⟨n, by omega⟩ ⟨f, hf⟩ h
theorem half_ge (n : Nat) (hn : n ≤ 1024) : n ≤ 2 * half n := by
  have := half_fuel 9 n 1 (by simpa using hn)
  unfold half
  omega
theorem sides_one (f i : Nat) : sides f 1 i = [] := by cases f <;> simp [sides]
theorem sides_split : ∀ (m f n i : Nat), 2 ^ m < n → n ≤ 2 ^ (m + 1) → n ≤ 256 → i < n → m + 1 ≤ f →
    sides f n i = if i < 2 ^ m then sides f (2 ^ m) i ++ [false] else sides f (n - 2 ^ m) (i - 2 ^ m) ++ [true]
  | m, 0, n, i, _, _, _, _, hf => by omega
  | 0, f + 1, n, i, h1, h2, hn, hi, hf => by
    obtain rfl : n = 2 := by simp at h1 h2; omega
    rcases (by omega : i = 0 ∨ i = 1) with rfl | rfl
    · simp [sides, sides_one]
    · simp [sides, sides_one]
  | m + 1, f + 1, n, i, h1, h2, hn, hi, hf => by
    have e1 : 2 ^ (m + 1) = 2 * 2 ^ m := by rw [Nat.pow_succ]; omega
    have e2 : 2 ^ (m + 1 + 1) = 4 * 2 ^ m := by rw [Nat.pow_succ, Nat.pow_succ]; omega
    have hp : 0 < 2 ^ m := Nat.two_pow_pos m
    rw [e1] at h1 ⊢
    rw [e2] at h2
    have ih := sides_split m f ((n + 1) / 2) (i / 2) (by omega) (by rw [e1]; omega) (by omega) (by omega) (by omega)
    have hx := xor1 i (by omega)
    by_cases hlt : i < 2 * 2 ^ m
    · rw [if_pos (by omega)] at ih
      rw [if_pos hlt]
      simp only [sides]
      have g1 : (i ^^^ 1) < 2 * 2 ^ m := by rw [hx]; split <;> omega
      rw [if_neg (show ¬ n ≤ 1 by omega), if_neg (show ¬ 2 * 2 ^ m ≤ 1 by omega), if_pos (show (i ^^^ 1) < n by omega), if_pos g1, ih, show (2 * 2 ^ m + 1) / 2 = 2 ^ m from by omega]
      rfl
    · rw [if_neg (by omega)] at ih
      rw [if_neg hlt]
      have hy := xor1 (i - 2 * 2 ^ m) (by omega)
      simp only [sides]
      rw [if_neg (by omega), ih]
      by_cases h3 : n - 2 * 2 ^ m ≤ 1
      · have hi2 : i = 2 * 2 ^ m := by omega
        rw [if_pos h3, if_neg (by rw [hx]; split <;> omega), show (n + 1) / 2 - 2 ^ m = 1 from by omega, sides_one]
      · rw [if_neg h3, show (n - 2 * 2 ^ m + 1) / 2 = (n + 1) / 2 - 2 ^ m from by omega, show (i - 2 * 2 ^ m) / 2 = i / 2 - 2 ^ m from by omega, show (i - 2 * 2 ^ m) % 2 = i % 2 from by omega]
        by_cases h4 : (i ^^^ 1) < n
        · rw [if_pos h4, if_pos (by rw [hy]; rw [hx] at h4; split at h4 <;> split <;> omega)]
          rfl
        · rw [if_neg h4, if_neg (by rw [hy]; rw [hx] at h4; split at h4 <;> split <;> omega)]
theorem half_is (n : Nat) (h2 : 2 ≤ n) (hn : n ≤ 256) : ∃ m, m < 8 ∧ half n = 2 ^ m ∧ 2 ^ m < n ∧ n ≤ 2 ^ (m + 1) := by
  have : ∀ n : Fin 257, 2 ≤ n.1 → ∃ m : Fin 8, half n.1 = 2 ^ m.1 ∧ 2 ^ m.1 < n.1 ∧ n.1 ≤ 2 ^ (m.1 + 1) := by decide +kernel
  obtain ⟨m, hm⟩ := this ⟨n, by omega⟩ h2
  exact ⟨m.1, m.2, hm⟩
theorem sides_tdF : ∀ (f n i F : Nat), n ≤ 2 ^ f → n ≤ 256 → i < n → f ≤ F → f ≤ 8 → 8 ≤ F → sides F n i = sidesTD f n i
  | 0, n, i, F, h, hn, hi, hF, _, _ => by
    obtain rfl : n = 1 := by simp at h; omega
    rw [sides_one]
    rfl
  | f + 1, n, i, F, h, hn, hi, hF, h8, hF8 => by
    simp only [sidesTD]
    by_cases h1 : n ≤ 1
    · obtain rfl : n = 1 := by omega
      rw [sides_one, if_pos h1]
    · rw [if_neg h1]
      obtain ⟨m, hm, hh, g1, g2⟩ := half_is n (by omega) hn
      have hp := half_pow n f hn (by omega) h
      rw [sides_split m F n i g1 g2 hn hi (by omega), ← hh] 
      rw [Nat.pow_succ, ← hh] at g2
      rw [← hh] at g1
      by_cases hlt : i < half n
      · rw [if_pos hlt, if_pos hlt, sides_tdF f (half n) i F hp (by omega) hlt (by omega) (by omega) hF8]
      · rw [if_neg hlt, if_neg hlt, sides_tdF f (n - half n) (i - half n) F (by omega) (by omega) (by omega) (by omega) (by omega) hF8]
theorem sides_td {n i : Nat} (hn : n ≤ 256) (hi : i < n) : sides 8 n i = sidesTD 8 n i := sides_tdF 8 n i 8 hn hn hi (by omega) (by omega) (by omega)
theorem half_l0 : ∀ (f n x : Nat), n ≤ 1000 → x ≤ 1000 → n ≤ 2 ^ (f + 1) * x → EV (fun k => mosaicref03_half.l0 k (n : Int) (x : Int)) ((halfF f n x : Nat) : Int)
  | 0, n, x, hn, hx, h => by
    refine EV.succ ?_
    simp only [mosaicref03_half.l0]
    rw [w64 _ (by omega) (by omega)]
    exact EV.neg (by simp at h; omega) (EV.const _)
  | f + 1, n, x, hn, hx, h => by
    refine EV.succ ?_
    simp only [mosaicref03_half.l0, halfF]
    rw [w64 _ (by omega) (by omega)]
    by_cases h2 : 2 * x < n
    · rw [if_pos h2]
      refine EV.pos (by omega) ?_
      rw [show (x : Int) * 2 = ((2 * x : Nat) : Int) from by omega]
      exact half_l0 f n (2 * x) hn (by omega) (by rw [Nat.pow_succ] at h; rw [← Nat.mul_assoc]; exact h)
    · rw [if_neg h2]
      exact EV.neg (by omega) (EV.const _)
theorem half_ev (n : Nat) (hn : n ≤ 256) : EV (fun k => mosaicref03_half.f k (n : Int)) ((half n : Nat) : Int) := half_l0 9 n 1 (by omega) (by omega) (by simp; omega)
theorem rdepth_l0 : ∀ (f n i acc : Nat), i < n → n ≤ 2 ^ f → n ≤ 256 → f ≤ 8 → acc + f ≤ 100 → EV (fun k => mosaicref03_Depth.l0 k (n : Int) (i : Int) (acc : Int)) (((acc + (sidesTD f n i).length : Nat) : Int))
  | f, n, i, acc, hi, hf, hn, hf8, ha => by
    refine EV.succ ?_
    simp only [mosaicref03_Depth.l0]
    by_cases h1 : n ≤ 1
    · refine EV.neg (by omega) ((EV.const _).to ?_)
      cases f with
      | zero => simp [sidesTD]
      | succ f => simp only [sidesTD]; rw [if_pos h1]; simp
    · cases f with
      | zero => simp at hf; omega
      | succ f =>
        simp only [sidesTD]
        rw [if_neg h1]
        have hp := half_pow n f hn (by omega) hf
        have hg := half_ge n (by omega)
        have hl := (half_lt n).2 (by omega)
        have h0 := (half_lt n).1
        refine EV.pos (by omega) (EV.bind (half_ev n hn) ?_)
        rw [w64 ((acc : Int) + 1) (by omega) (by omega), show (acc : Int) + 1 = ((acc + 1 : Nat) : Int) from by omega]
        by_cases h2 : i < half n
        · rw [if_pos h2]
          refine EV.pos (by omega) ?_
          refine (rdepth_l0 f (half n) i (acc + 1) h2 hp (by omega) (by omega) (by omega)).to ?_
          simp only [List.length_append, List.length_cons, List.length_nil]
          omega
        · rw [if_neg h2]
          refine EV.neg (by omega) ?_
          rw [w64 _ (by omega) (by omega), w64 _ (by omega) (by omega), show (n : Int) - ((half n : Nat) : Int) = ((n - half n : Nat) : Int) from by omega, show (i : Int) - ((half n : Nat) : Int) = ((i - half n : Nat) : Int) from by omega]
          refine (rdepth_l0 f (n - half n) (i - half n) (acc + 1) (by omega) (by omega) (by omega) (by omega) (by omega)).to ?_
          simp only [List.length_append, List.length_cons, List.length_nil]
          omega
theorem rdepth_ok (n i : Nat) (hi : i < n) (hn : n ≤ 256) : EV (fun k => mosaicref03_Depth.f k (n : Int) (i : Int)) (((sides 8 n i).length : Nat) : Int) := by
  unfold mosaicref03_Depth.f
  refine EV.neg (by omega) (EV.neg (by omega) (EV.neg (by omega) ?_))
  rw [show decide ((i : Int) ≥ (n : Int)) = false from decide_eq_false (by omega)]
  refine EV.succ ?_
  simp only [mosaicref03_Depth.j0]
  refine EV.neg (by decide) ((rdepth_l0 8 n i 0 hi hn hn (by omega) (by omega)).to ?_)
  rw [sides_td hn hi]
  simp
theorem rdepth_bad (N I : Int) (h : ¬ (1 ≤ N ∧ N ≤ 256 ∧ 0 ≤ I ∧ I < N)) : EV (fun k => mosaicref03_Depth.f k N I) (-1) := by
  have no : EV (fun k => mosaicref03_Depth.j0 k N I true) (-1) := by
    refine EV.succ ?_
    simp only [mosaicref03_Depth.j0]
    exact EV.pos (by first | trivial | rfl) (EV.const _)
  unfold mosaicref03_Depth.f
  by_cases h1 : N < 1
  · exact EV.pos h1 no
  · refine EV.neg h1 ?_
    by_cases h2 : N > 256
    · exact EV.pos h2 no
    · refine EV.neg h2 ?_
      by_cases h3 : I < 0
      · exact EV.pos h3 no
      · refine EV.neg h3 ?_
        rw [show decide (I ≥ N) = true from decide_eq_true (by omega)]
        exact no
theorem in_bad (N I : Int) (h : ¬ (1 ≤ N ∧ N ≤ 256 ∧ 0 ≤ I ∧ I < N)) : merkle_in.f N I = some false := by
  unfold merkle_in.f
  by_cases h1 : N ≥ 1
  · rw [if_pos h1]
    by_cases h2 : N ≤ 256
    · rw [if_pos h2]
      by_cases h3 : I ≥ 0
      · rw [if_pos h3, show decide (I < N) = false from decide_eq_false (by omega)]
      · rw [if_neg h3]
    · rw [if_neg h2]
  · rw [if_neg h1]
theorem rfolds_l0 (ps : List ByteArray) (hl : ps.length ≤ 1000) : ∀ (m j : Nat), j + m = ps.length → EV (fun k => mosaicref03_folds.l0 k ps (j : Int)) (if (ps.drop j).any (fun s => decide ((s.size : Int) ≠ 32)) then 3 else 0)
  | 0, j, h => by
    refine EV.succ ?_
    simp only [mosaicref03_folds.l0]
    refine EV.neg (by omega) ((EV.const _).to ?_)
    rw [List.drop_eq_nil_of_le (by omega)]
    rfl
  | m + 1, j, h => by
    refine EV.succ ?_
    simp only [mosaicref03_folds.l0]
    rw [rdOf_nat, w64 _ (by omega) (by omega), drop_cons ps j (by omega), List.any_cons]
    refine EV.pos (by omega) (EV.pos (by omega) ?_)
    by_cases hs : ((ps.getD j ByteArray.empty).size : Int) = 32
    · refine EV.pos hs ?_
      rw [show decide (((ps.getD j ByteArray.empty).size : Int) ≠ 32) = false from decide_eq_false (by omega), Bool.false_or]
      exact rfolds_l0 ps hl m (j + 1) (by omega)
    · refine EV.neg hs ((EV.const _).to ?_)
      rw [show decide (((ps.getD j ByteArray.empty).size : Int) ≠ 32) = true from decide_eq_true (by omega), Bool.true_or]
      rfl
/-- The program and the document say the same of a fold: it may be made, or one error. -/
theorem folds_case (N I : Int) (d : ByteArray) (ps : List ByteArray) (hl : ps.length ≤ 1000) :
    (∃ n i : Nat, N = n ∧ I = i ∧ i < n ∧ n ≤ 256 ∧ d.size = 32 ∧ ps.length = (sides 8 n i).length ∧ (∀ p ∈ ps, p.size = 32) ∧ EV (fun k => merkle_folds.f k N I d ps) 0 ∧ EV (fun k => mosaicref03_folds.f k N I d ps) 0) ∨
    ∃ e : Int, e ≠ 0 ∧ EV (fun k => merkle_folds.f k N I d ps) e ∧ EV (fun k => mosaicref03_folds.f k N I d ps) e := by
  by_cases hin : 1 ≤ N ∧ N ≤ 256 ∧ 0 ≤ I ∧ I < N
  · obtain ⟨n, rfl⟩ : ∃ n : Nat, N = n := ⟨N.toNat, by omega⟩
    obtain ⟨i, rfl⟩ : ∃ i : Nat, I = i := ⟨I.toNat, by omega⟩
    have hi : i < n := by omega
    have hn : n ≤ 256 := by omega
    have hdep := rdepth_ok n i hi hn
    by_cases h1 : d.size = 32
    · have hr : ∀ e, EV (fun k => if (ps.length : Int) = ((sides 8 n i).length : Int) then mosaicref03_folds.l0 k ps 0 else some 3) e → EV (fun k => mosaicref03_folds.f k (n : Int) (i : Int) d ps) e := by
        intro e he
        unfold mosaicref03_folds.f
        refine EV.bind hdep (EV.neg (by omega) ?_)
        rw [show ((d.size : Int) != 32) = false from by simp; omega]
        refine EV.succ ?_
        simp only [mosaicref03_folds.j0]
        exact EV.neg (by decide) (EV.bind hdep he)
      by_cases h2 : ps.length = (sides 8 n i).length
      · have hl0 := rfolds_l0 ps hl ps.length 0 (by omega)
        rw [List.drop_zero] at hl0
        by_cases h3 : ∀ p ∈ ps, p.size = 32
        · refine .inl ⟨n, i, rfl, rfl, hi, hn, h1, h2, h3, folds_ok n i d ps hi hn h2 h1 h3, hr 0 (EV.pos (by omega) (hl0.to ?_))⟩
          rw [if_neg]
          simp only [List.any_eq_true, decide_eq_true_eq, not_exists, not_and]
          intro x hx h
          have := h3 x hx
          omega
        · have h4 : (ps.any fun s => decide ((s.size : Int) ≠ 32)) = true := by
            simp only [List.any_eq_true, decide_eq_true_eq]
            by_cases h5 : ∃ x, x ∈ ps ∧ ((x.size : Int) ≠ 32)
            · exact h5
            · exact absurd (fun p hp => by
                by_cases hq : p.size = 32
                · exact hq
                · exact absurd ⟨p, hp, by omega⟩ h5) h3
          rw [if_pos h4] at hl0
          refine .inr ⟨3, by decide, ?_, hr 3 (EV.pos (by omega) hl0)⟩
          unfold merkle_folds.f
          rw [in_ok n i hn hi]
          simp only [Option.bind_some]
          refine EV.pos (by first | trivial | rfl) (EV.pos (by omega) (EV.bind (depth_ev n i hi hn) ((EV.const _).to ?_)))
          rw [if_pos (by omega), if_pos h4]
      · refine .inr ⟨3, by decide, ?_, hr 3 (EV.neg (by omega) (EV.const _))⟩
        unfold merkle_folds.f
        rw [in_ok n i hn hi]
        simp only [Option.bind_some]
        refine EV.pos (by first | trivial | rfl) (EV.pos (by omega) (EV.bind (depth_ev n i hi hn) ((EV.const _).to ?_)))
        rw [if_neg (by omega)]
    · refine .inr ⟨1, by decide, ?_, ?_⟩
      · unfold merkle_folds.f
        rw [in_ok n i hn hi]
        simp only [Option.bind_some]
        exact EV.pos (by first | trivial | rfl) (EV.neg (by omega) (EV.const _))
      · unfold mosaicref03_folds.f
        refine EV.bind hdep (EV.neg (by omega) ?_)
        rw [show ((d.size : Int) != 32) = true from by simp; omega]
        refine EV.succ ?_
        simp only [mosaicref03_folds.j0]
        exact EV.pos (by first | trivial | rfl) (EV.const _)
  · refine .inr ⟨1, by decide, ?_, ?_⟩
    · unfold merkle_folds.f
      rw [in_bad N I hin]
      simp only [Option.bind_some]
      exact EV.neg (by decide) (EV.const _)
    · unfold mosaicref03_folds.f
      refine EV.bind (rdepth_bad N I hin) (EV.pos (by omega) ?_)
      refine EV.succ ?_
      simp only [mosaicref03_folds.j0]
      exact EV.pos (by first | trivial | rfl) (EV.const _)
theorem cl_snoc (H : ByteArray → ByteArray) (s : Bool) (p : ByteArray) : ∀ (ss : List Bool) (d : ByteArray) (ps : List ByteArray), ps.length = ss.length →
    cl H (ss ++ [s]) d (ps ++ [p]) = (H (if s then kt p (cl H ss d ps).1 else kt (cl H ss d ps).1 p), (cl H ss d ps).2 ++ [if s then kt p (cl H ss d ps).1 else kt (cl H ss d ps).1 p])
  | [], d, [], _ => rfl
  | [], d, _ :: _, h => by simp at h
  | t :: ss, d, [], h => by simp at h
  | t :: ss, d, q :: ps, h => by
    simp only [List.cons_append, cl]
    rw [cl_snoc H s p ss _ ps (by simpa using h)]
theorem cl_small (ss : List Bool) (d : ByteArray) (ps : List ByteArray) (hd : d.size ≤ 2000) : (cl SHA ss d ps).1.size ≤ 2000 := by
  induction ss generalizing d ps with
  | nil => cases ps <;> simpa [cl] using hd
  | cons s ss ih =>
    cases ps with
    | nil => simpa [cl] using hd
    | cons p ps =>
      simp only [cl]
      exact ih _ _ (by have := SHA_small (if s then kt p d else kt d p); omega)
theorem KnotText_f (a b : ByteArray) (ha : a.size ≤ 2000) (hb : b.size ≤ 2000) : mosaicref03_KnotText.f a b = some (kt a b) := knot_f a b ha hb
theorem split_last (l : List ByteArray) (h : 0 < l.length) : l = l.take (l.length - 1) ++ [l.getD (l.length - 1) ByteArray.empty] := by
  have h1 := drop_cons l (l.length - 1) (by omega)
  rw [List.drop_eq_nil_of_le (by omega : l.length ≤ l.length - 1 + 1)] at h1
  rw [← h1, List.take_append_drop]
theorem rclimb_ok : ∀ (f n i : Nat) (d : ByteArray) (ps : List ByteArray), i < n → n ≤ 2 ^ f → n ≤ 256 → f ≤ 8 → ps.length = (sidesTD f n i).length → d.size ≤ 2000 → (∀ p ∈ ps, p.size ≤ 2000) →
    EV (fun k => mosaicref03_climb.f k (n : Int) (i : Int) d ps) (cl SHA (sidesTD f n i) d ps)
  | f, n, i, d, ps, hi, hf, hn, hf8, hp, hd, hs => by
    refine EV.succ ?_
    simp only [mosaicref03_climb.f]
    by_cases h0 : ps.length = 0
    · refine EV.pos (by omega) ((EV.const _).to ?_)
      obtain rfl := List.eq_nil_of_length_eq_zero h0
      rw [List.eq_nil_of_length_eq_zero (hp.symm.trans h0)]
      rfl
    · refine EV.neg (by omega) ?_
      cases f with
      | zero => simp [sidesTD] at hp; simp [hp] at h0
      | succ f =>
        simp only [sidesTD] at hp ⊢
        by_cases h1 : n ≤ 1
        · rw [if_pos h1] at hp; simp at hp; simp [hp] at h0
        · rw [if_neg h1] at hp ⊢
          have hpw := half_pow n f hn (by omega) hf
          have hg := half_ge n (by omega)
          have hl := (half_lt n).2 (by omega)
          have hq := hs _ (getD_mem ps (ps.length - 1) (by omega))
          have hps : ps.length ≤ 300 := by
            rw [hp]
            split
            · have := sidesTD_len f (half n) i; simp; omega
            · have := sidesTD_len f (n - half n) (i - half n); simp; omega
          refine EV.bind (half_ev n hn) ?_
          rw [w64 ((ps.length : Int) - 1) (by omega) (by omega), show (ps.length : Int) - 1 = ((ps.length - 1 : Nat) : Int) from by omega, rdOf_nat]
          refine EV.pos (by omega) (EV.pos (by omega) (EV.pos (by omega) ?_))
          simp only [Int.toNat_natCast]
          have hst : ∀ p ∈ ps.take (ps.length - 1), p.size ≤ 2000 := fun p hp => hs p (List.mem_of_mem_take hp)
          by_cases h2 : i < half n
          · rw [if_pos h2] at hp ⊢
            simp only [List.length_append, List.length_cons, List.length_nil] at hp
            have hlt : (ps.take (ps.length - 1)).length = (sidesTD f (half n) i).length := by rw [List.length_take]; omega
            have ih := rclimb_ok f (half n) i d (ps.take (ps.length - 1)) h2 hpw (by omega) (by omega) hlt hd hst
            have hsm := cl_small (sidesTD f (half n) i) d (ps.take (ps.length - 1)) hd
            have hcl := cl_len SHA (sidesTD f (half n) i) d (ps.take (ps.length - 1))
            refine EV.pos (by omega) (EV.bind ih ?_)
            rw [KnotText_f _ _ hsm hq]
            simp only [Option.bind_some]
            refine EV.pos (by omega) (EV.bind (sum_ref _) ((EV.const _).to ?_))
            have hsn := cl_snoc SHA false (ps.getD (ps.length - 1) ByteArray.empty) (sidesTD f (half n) i) d (ps.take (ps.length - 1)) hlt
            rw [← split_last ps (by omega)] at hsn
            rw [hsn]
            rfl
          · rw [if_neg h2] at hp ⊢
            simp only [List.length_append, List.length_cons, List.length_nil] at hp
            have hlt : (ps.take (ps.length - 1)).length = (sidesTD f (n - half n) (i - half n)).length := by rw [List.length_take]; omega
            have ih := rclimb_ok f (n - half n) (i - half n) d (ps.take (ps.length - 1)) (by omega) (by omega) (by omega) (by omega) hlt hd hst
            have hsm := cl_small (sidesTD f (n - half n) (i - half n)) d (ps.take (ps.length - 1)) hd
            have hcl := cl_len SHA (sidesTD f (n - half n) (i - half n)) d (ps.take (ps.length - 1))
            rw [w64 ((n : Int) - ((half n : Nat) : Int)) (by omega) (by omega), w64 ((i : Int) - ((half n : Nat) : Int)) (by omega) (by omega), show (n : Int) - ((half n : Nat) : Int) = ((n - half n : Nat) : Int) from by omega, show (i : Int) - ((half n : Nat) : Int) = ((i - half n : Nat) : Int) from by omega]
            refine EV.neg (by omega) (EV.bind ih ?_)
            rw [KnotText_f _ _ hq hsm]
            simp only [Option.bind_some]
            refine EV.pos (by omega) (EV.bind (sum_ref _) ((EV.const _).to ?_))
            have hsn := cl_snoc SHA true (ps.getD (ps.length - 1) ByteArray.empty) (sidesTD f (n - half n) (i - half n)) d (ps.take (ps.length - 1)) hlt
            rw [← split_last ps (by omega)] at hsn
            rw [hsn]
            rfl
where
  sidesTD_len : ∀ (f n i : Nat), (sidesTD f n i).length ≤ f
    | 0, _, _ => by simp [sidesTD]
    | f + 1, n, i => by
      simp only [sidesTD]
      split
      · simp
      · split
        · have := sidesTD_len f (half n) i; simp; omega
        · have := sidesTD_len f (n - half n) (i - half n); simp; omega
theorem same_l0 (a : List ByteArray) (hl : a.length ≤ 1000) : ∀ (m j : Nat), j + m = a.length → EV (fun k => mosaicref03_Same.l0 k a a (j : Int)) true
  | 0, j, h => by
    refine EV.succ ?_
    simp only [mosaicref03_Same.l0]
    exact EV.neg (by omega) (EV.const _)
  | m + 1, j, h => by
    refine EV.succ ?_
    simp only [mosaicref03_Same.l0]
    rw [w64 ((j : Int) + 1) (by omega) (by omega)]
    exact EV.pos (by omega) (EV.pos (by omega) (EV.pos (by omega) (EV.pos (by first | trivial | rfl) (same_l0 a hl m (j + 1) (by omega)))))
theorem same_ev (a : List ByteArray) (hl : a.length ≤ 1000) : EV (fun k => mosaicref03_Same.f k a a) true := by
  unfold mosaicref03_Same.f
  exact EV.pos (by first | trivial | rfl) (same_l0 a hl a.length 0 (by omega))
theorem road_l0 (d : ByteArray) (b : List ByteArray) (hb : b.length ≤ 1000) : ∀ (m j : Nat) (acc : List ByteArray), j + m = b.length → acc.length ≤ j + 1 → EV (fun k => mosaicref03_Road.l0 k acc (j : Int) d b) (acc ++ b.drop j)
  | 0, j, acc, h, ha => by
    refine EV.succ ?_
    simp only [mosaicref03_Road.l0]
    refine EV.neg (by omega) ((EV.const _).to ?_)
    rw [List.drop_eq_nil_of_le (by omega), List.append_nil]
  | m + 1, j, acc, h, ha => by
    refine EV.succ ?_
    simp only [mosaicref03_Road.l0]
    rw [rdOf_nat, w64 ((j : Int) + 1) (by omega) (by omega)]
    refine EV.pos (by omega) (EV.pos (by omega) (EV.pos (by omega) ?_))
    refine (road_l0 d b hb m (j + 1) (acc ++ [b.getD j ByteArray.empty]) (by omega) (by simp; omega)).to ?_
    rw [drop_cons b j (by omega)]
    simp
/-- What a fold and its climb are, of any digest and path: the program's and the document's. -/
theorem fold_both (N I : Int) (d : ByteArray) (ps : List ByteArray) (hl : ps.length ≤ 1000) :
    ∃ (e : Int) (r : ByteArray) (tx : List ByteArray), tx.length ≤ 100 ∧ EV (fun k => merkle_folds.f k N I d ps) e ∧ EV (fun k => mosaicref03_folds.f k N I d ps) e ∧
      EV (fun k => merkle_Fold.f k N I d ps) (r, e) ∧ EV (fun k => mosaicref03_Fold.f k N I d ps) (r, e) ∧ EV (fun k => merkle_Climb.f k N I d ps) tx ∧ EV (fun k => mosaicref03_Climb.f k N I d ps) tx ∧
      (e = 0 → ∃ x, EV (fun k => mosaicref03_climb.f k N I d ps) (x, tx)) := by
  rcases folds_case N I d ps hl with ⟨n, i, rfl, rfl, hi, hn, h32, hlen, hs, h1, h2⟩ | ⟨e, he, h1, h2⟩
  · have hc : EV (fun k => mosaicref03_climb.f k (n : Int) (i : Int) d ps) (cl SHA (sides 8 n i) d ps) := by
      have hlen2 := hlen
      rw [sides_td hn hi] at hlen2 ⊢
      exact rclimb_ok 8 n i d ps hi hn hn (by omega) hlen2 (by omega) (fun p hp => by have := hs p hp; omega)
    have hside := sides_len 8 n i
    have hcl := cl_len SHA (sides 8 n i) d ps
    refine ⟨0, (cl SHA (sides 8 n i) d ps).1, (cl SHA (sides 8 n i) d ps).2, by omega, h1, h2, fold_ok n i d ps hi hn hlen h32 hs, ?_, Climb_ok n i d ps hi hn hlen h32 hs, ?_, fun _ => ⟨_, hc⟩⟩
    · unfold mosaicref03_Fold.f
      exact EV.bind h2 (EV.pos (by first | trivial | rfl) (EV.bind hc (EV.const _)))
    · unfold mosaicref03_Climb.f
      exact EV.bind h2 (EV.pos (by first | trivial | rfl) (EV.bind hc (EV.const _)))
  · refine ⟨e, ⟨#[]⟩, [], by simp, h1, h2, ?_, ?_, ?_, ?_, fun h => absurd h he⟩
    · unfold merkle_Fold.f
      exact EV.bind h1 (EV.neg he (EV.const _))
    · unfold mosaicref03_Fold.f
      exact EV.bind h2 (EV.neg he (EV.const _))
    · unfold merkle_Climb.f
      exact EV.bind h1 (EV.neg he (EV.const _))
    · unfold mosaicref03_Climb.f
      exact EV.bind h2 (EV.neg he (EV.const _))
theorem road_both (N I : Int) (x : ByteArray) (ps : List ByteArray) (hl : ps.length ≤ 1000) (hx : x.size ≤ 2000) :
    ∃ tx : List ByteArray, tx.length ≤ 200 ∧ EV (fun k => merkle_Road.f k N I x ps) tx ∧ EV (fun k => mosaicref03_Road.f k N I x ps) tx := by
  obtain ⟨e, r, tx, htx, h1, h2, h3, h4, h5, h6, h7⟩ := fold_both N I (SHA (lf x)) ps hl
  have hlt : mosaicref03_LeafText.f x = some (lf x) := by
    unfold mosaicref03_LeafText.f
    rw [if_pos (by omega)]
    rfl
  by_cases he : e = 0
  · subst he
    obtain ⟨d', hc⟩ := h7 rfl
    refine ⟨lf x :: tx, by simp; omega, ?_, ?_⟩
    · unfold merkle_Road.f
      rw [leaf_f x (by omega)]
      simp only [Option.bind_some]
      refine EV.bind h1 (EV.pos (by first | trivial | rfl) (EV.pos (by omega) (EV.bind h5 (EV.pos ?_ (EV.const _)))))
      simp only [List.length_cons, List.length_nil]
      omega
    · unfold mosaicref03_Road.f
      rw [hlt]
      simp only [Option.bind_some]
      refine EV.bind (sum_ref _) (EV.bind h2 (EV.pos (by first | trivial | rfl) (EV.bind hc ?_)))
      have := road_l0 d' tx (by omega) tx.length 0 [lf x] (by omega) (by simp)
      rw [List.drop_zero] at this
      exact this
  · refine ⟨[], by simp, ?_, ?_⟩
    · unfold merkle_Road.f
      rw [leaf_f x (by omega)]
      simp only [Option.bind_some]
      exact EV.bind h1 (EV.neg he (EV.const _))
    · unfold mosaicref03_Road.f
      rw [hlt]
      simp only [Option.bind_some]
      exact EV.bind (sum_ref _) (EV.bind h2 (EV.neg he (EV.const _)))
theorem folds_pure (N I : Int) (d : ByteArray) (ps : List ByteArray) (a1 a2 : ByteArray) : ∃ k, mosaiclaw03_MerkleFolds.f k N I d ps a1 a2 = some true := by
  refine EV.ex (g := fun k => mosaiclaw03_MerkleFolds.f k N I d ps a1 a2) ?_
  have short : EV (fun k => mosaiclaw03_MerkleFolds.j0 k a1 a2 true N I d ps) true := by
    refine EV.succ ?_
    simp only [mosaiclaw03_MerkleFolds.j0]
    exact EV.pos (by first | trivial | rfl) (EV.bind awake_ev (EV.const _))
  unfold mosaiclaw03_MerkleFolds.f
  refine EV.bind (few_ev ps 12 100 (by omega)) ?_
  by_cases hf : fewOf ps 12 100 = true
  · refine EV.pos hf ?_
    by_cases hd : (d.size : Int) > 100
    · exact EV.pos hd short
    · refine EV.neg hd ?_
      by_cases h1 : (a1.size : Int) > 100
      · exact EV.pos h1 short
      · refine EV.neg h1 ?_
        by_cases h2 : (a2.size : Int) > 1100
        · rw [show decide ((a2.size : Int) > 1100) = true from decide_eq_true h2]
          exact short
        · rw [show decide ((a2.size : Int) > 1100) = false from decide_eq_false h2]
          obtain ⟨hn, hs⟩ := few_true (n := 12) (m := 100) hf
          obtain ⟨e, r, tx, htx, g1, g2, g3, g4, g5, g6, _⟩ := fold_both N I d ps (by omega)
          obtain ⟨ty, hty, g7, g8⟩ := road_both N I a2 ps (by omega) (by omega)
          refine EV.succ ?_
          simp only [mosaiclaw03_MerkleFolds.j0]
          refine EV.neg (by decide) (EV.bind g3 (EV.bind g4 (EV.bind g5 (EV.bind g6 (EV.bind (same_ev tx (by omega)) (EV.pos (by first | trivial | rfl) (EV.bind awake_ev (EV.pos (by first | trivial | rfl) (EV.pos (by first | trivial | rfl) (EV.pos (by first | trivial | rfl) ?_))))))))))
          have hchk : ∃ c, EV (fun k => merkle_Check.f k a1 N I d ps) c ∧ EV (fun k => mosaicref03_Check.f k a1 N I d ps) c := by
            unfold merkle_Check.f mosaicref03_Check.f
            by_cases he : e = 0
            · exact ⟨_, EV.bind g3 (EV.pos he (EV.const _)), EV.bind g4 (EV.pos he (EV.const _))⟩
            · exact ⟨_, EV.bind g3 (EV.neg he (EV.const _)), EV.bind g4 (EV.neg he (EV.const _))⟩
          obtain ⟨c, c1, c2⟩ := hchk
          exact EV.bind c1 (EV.bind c2 (EV.pos (by simp) (EV.bind g7 (EV.bind g8 (EV.bind (same_ev ty (by omega)) (EV.const _))))))
  · exact EV.neg hf short
end Go.Proofs.Ytaomblcecjaedaa.P
