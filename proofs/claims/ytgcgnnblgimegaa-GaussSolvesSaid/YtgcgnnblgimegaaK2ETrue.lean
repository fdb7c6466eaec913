/- What the claim on this statement wants of the text YtgcgnnblgimegaaETrue. Not trusted: Lean checks it. -/
import Derived.Test.YtgcgnnblgimegaaK2ETrueEv
namespace Go.Proofs.Ytgcgnnblgimegaa.P
open Go.RowKit Go.Proofs.YtgcgnnblgimegaaW.PrintWords Go.Proofs.YtgcgnnblgimegaaW.PrintLast Go.Proofs.YtgcgnnblgimegaaW.PrintMore
open Go.Proofs.Ytgcgnnblgimegaa.Red
set_option linter.unusedVariables false
set_option linter.unusedSimpArgs false
def comb (bs : List ByteArray) (f : Nat → Bool) (j : Nat) : Nat → UInt8
  | 0 => 0
  | n + 1 => comb bs f j n ^^^ cond (f n) (byteAt (bs.getD n ByteArray.empty) j) 0
theorem comb_xor (bs : List ByteArray) (f g : Nat → Bool) (j : Nat) : ∀ n, comb bs (fun i => Bool.xor (f i) (g i)) j n = comb bs f j n ^^^ comb bs g j n
  | 0 => by simp [comb]
  | n + 1 => by
    have hx : ∀ a b c d : UInt8, a ^^^ b ^^^ (c ^^^ d) = a ^^^ c ^^^ (b ^^^ d) := fun a b c d => by
      rw [UInt8.xor_assoc, UInt8.xor_assoc, ← UInt8.xor_assoc b c d, UInt8.xor_comm b c, UInt8.xor_assoc c b d]
    simp only [comb]
    rw [comb_xor bs f g j n, hx]
    congr 1
    generalize f n = a
    generalize g n = b
    cases a <;> cases b <;> simp
theorem comb_congr (bs : List ByteArray) {f g : Nat → Bool} (j : Nat) (h : ∀ i, f i = g i) (n : Nat) : comb bs f j n = comb bs g j n := by rw [show f = g from funext h]
/-- A side is true of the blocks. -/
def TrueOf (bs : List ByteArray) (n : Nat) (s : Sd) : Prop := s.b.size = size0 bs ∧ ∀ j, byteAt s.b j = comb bs (fun i => s.x.testBit i) j n
theorem TrueOf.plus {bs : List ByteArray} {n : Nat} (s t : Sd) (hs : TrueOf bs n s) (ht : TrueOf bs n t) : TrueOf bs n (s.plus t) :=
  ⟨xorB_size hs.1 ht.1, fun j => by
    show byteAt (xorB s.b t.b) j = _
    rw [xorB_at (hs.1.trans ht.1.symm), hs.2 j, ht.2 j, ← comb_xor]
    exact comb_congr bs j (fun i => by simp [Sd.plus, Nat.testBit_xor]) n⟩
theorem byteAt_zero (n j : Nat) : byteAt (zeroB n) j = 0 := by
  unfold byteAt zeroB
  by_cases hj : j < n
  · rw [List.getElem?_toArray, repeat_zero, List.getElem?_replicate, if_pos hj]; rfl
  · rw [List.getElem?_toArray, repeat_zero, List.getElem?_replicate, if_neg hj]; rfl
theorem mayRow_lt {n : Int} {l : List Int} (h : mayRowB n l = true) : ∀ j i : Nat, i < j → j < l.length → rd l (i : Int) < rd l (j : Int)
  | j + 1, i, hij, hj => by
    have := (allFrom_iff (mayAt n l) l.length 0).1 h (j + 1) (Nat.zero_le _) (by omega)
    simp only [mayAt, Bool.and_eq_true, Bool.or_eq_true, decide_eq_true_eq] at this
    have h2 : rd l ((j : Nat) : Int) < rd l ((j + 1 : Nat) : Int) := by
      rcases this.2 with h3 | h3
      · omega
      · rwa [show (((j + 1 : Nat) : Int) - 1) = ((j : Nat) : Int) by omega] at h3
    by_cases e : i = j
    · rw [e]; exact h2
    · have := mayRow_lt h j i (by omega) (by omega)
      omega
theorem may_rows {n : Int} {rows : List (List Int)} (h : mayB n rows = true) : ∀ r ∈ rows, mayRowB n r = true := by
  unfold mayB at h
  simp only [Bool.and_eq_true, List.all_eq_true] at h
  exact h.2
/-- The number of a row that has one. -/
def oneX (x : Nat) (i : Int) : Bool := decide ((lst x).length = 1) && decide (rd (lst x) 0 = i)
theorem mem_lst {x i : Nat} (hi : i < 160) (h : x.testBit i = true) : (i : Int) ∈ lst x := by
  unfold lst pre
  exact List.mem_map.2 ⟨i, List.mem_filter.2 ⟨List.mem_range.2 hi, by simpa using h⟩, rfl⟩
theorem oneX_bits {x : Nat} {i : Int} (h : oneX x i = true) : 0 ≤ i ∧ i < 160 ∧ ∀ j, j < 160 → x.testBit j = (j == i.toNat) := by
  unfold oneX at h
  simp only [Bool.and_eq_true, decide_eq_true_eq] at h
  obtain ⟨h1, h2⟩ := h
  obtain ⟨a, ha⟩ := List.length_eq_one_iff.1 h1
  have hi : a = i := by rw [ha] at h2; simpa [rd] using h2
  subst hi
  have hm : a ∈ lst x := by rw [ha]; simp
  have hm1 := lst_mem hm
  have hm2 : a < 160 := by
    unfold lst pre at hm
    obtain ⟨j, hj, rfl⟩ := List.mem_map.1 hm
    have := List.mem_range.1 (List.mem_filter.1 hj).1
    show (j : Int) < 160
    omega
  refine ⟨hm1.1, hm2, fun j hj => ?_⟩
  by_cases e : j = a.toNat
  · rw [e, hm1.2]; simp
  · have : (j == a.toNat) = false := by simpa using e
    rw [this]
    cases hb : x.testBit j with
    | false => rfl
    | true =>
      have := mem_lst hj hb
      rw [ha] at this
      have : (j : Int) = a := by simpa using this
      omega
theorem putO_at {β : Type} (f : ByteArray → β) (e : ByteArray) (o : List ByteArray) (x : Sd) (i : Nat) (hi : i < o.length) : f ((putO o x).getD i e) = if oneX x.x (i : Int) then f x.b else f (o.getD i e) := by
  unfold putO oneX
  by_cases h1 : (lst x.x).length = 1
  · rw [if_pos h1]
    have h0 := (lst_mem (lst_one h1)).1
    by_cases h2 : rd (lst x.x) 0 = (i : Int)
    · rw [decide_eq_true h1, decide_eq_true h2, if_pos (show (true && true) = true from rfl), h2, Int.toNat_natCast, List.getD_eq_getElem?_getD, List.getElem?_set_self hi]
      rfl
    · rw [decide_eq_true h1, decide_eq_false h2, if_neg (by decide), List.getD_eq_getElem?_getD, List.getElem?_set_ne (by omega), List.getD_eq_getElem?_getD]
  · rw [if_neg h1, decide_eq_false h1]
    rfl
theorem outs_at {β : Type} (f : ByteArray → β) (v : β) (e : ByteArray) (i : Nat) : ∀ (L : List Sd) (o : List ByteArray), i < o.length → (∀ s ∈ L, oneX s.x (i : Int) = true → f s.b = v) →
    f ((L.foldl putO o).getD i e) = if L.any (fun s => oneX s.x (i : Int)) then v else f (o.getD i e)
  | [], o, _, _ => rfl
  | x :: L, o, hi, h => by
    rw [List.foldl_cons, outs_at f v e i L (putO o x) (by rw [putO_length]; exact hi) fun s hs => h s (by simp [hs]), putO_at f e o x i hi, List.any_cons]
    cases hx : oneX x.x (i : Int) with
    | false => simp
    | true =>
      rw [h x (by simp) hx]
      cases L.any fun s => oneX s.x (i : Int) <;> simp
theorem eqB_true {n size : Int} {l : List S41} (hm : mayB n (l.map (fun x : S41 => x.f0)) = true) (h1 : 1 ≤ size ∧ size ≤ 64) (hs : ∀ x ∈ l, (x.f1.size : Int) = size) : eqB n size l = true := by
  unfold eqB
  rw [hm, decide_eq_true h1.1, decide_eq_true h1.2]
  have : l.all (fun x => isB x.f1 size) = true := by
    rw [List.all_eq_true]
    intro x hx
    unfold isB
    rw [decide_eq_true h1.1, decide_eq_true h1.2, hs x hx]
    simp
  rw [this]
  rfl
theorem solve_eq {n sz : Nat} {l : List S41} (hm : mayB n (l.map (fun x : S41 => x.f0)) = true) (h1 : 1 ≤ sz ∧ sz ≤ 64) (hs : ∀ x ∈ l, x.f1.size = sz) :
    solveB n sz l = if (redOf n l).1.any (nzB (zeroB sz)) then ([], 9) else ((redOf n l).2.foldl putO (List.replicate n ⟨#[]⟩), 0) := by
  unfold solveB
  rw [eqB_true hm (by omega) (fun x hx => by rw [hs x hx]), if_pos rfl, Int.toNat_natCast, Int.toNat_natCast]
end Go.Proofs.Ytgcgnnblgimegaa.P
