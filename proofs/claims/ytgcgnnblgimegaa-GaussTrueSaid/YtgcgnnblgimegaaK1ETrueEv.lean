/- What the claim on this statement wants of the text YtgcgnnblgimegaaETrueEv. Not trusted: Lean checks it. -/
import Derived.Test.YtgcgnnblgimegaaK1Px8
import Derived.Test.YtgcgnnblgimegaaK1ESolve
namespace Go.Proofs.Ytgcgnnblgimegaa.P
open Go.RowKit Go.Proofs.YtgcgnnblgimegaaW.PrintWords Go.Proofs.YtgcgnnblgimegaaW.PrintLast Go.Proofs.YtgcgnnblgimegaaW.PrintMore
open Go.Proofs.Ytgcgnnblgimegaa.Red
set_option linter.unusedVariables false
set_option linter.unusedSimpArgs false
theorem wsucc (i : Nat) (h : i + 1 ≤ 9223372036854775807) : wrap64 ((i : Int) + 1) = ((i + 1 : Nat) : Int) := by rw [w64 _ (by omega) (by omega)]; rfl
theorem awake_true : mosaiclaw12_awake.f 200 = some true := by decide +kernel
theorem few_l0 (l : List (List Int)) (hl : l.length ≤ 9223372036854775807) : ∀ (d i : Nat), i + d = l.length → EV (fun k => mosaiclaw12_Few.l0 k l (i : Int)) ((l.drop i).all fun r => decide (r.length ≤ 80))
  | 0, i, h => by
    refine EV.succ ?_
    simp only [mosaiclaw12_Few.l0]
    rw [List.drop_eq_nil_of_le (by omega)]
    exact EV.neg (by omega) (EV.const _)
  | d + 1, i, h => by
    refine EV.succ ?_
    simp only [mosaiclaw12_Few.l0]
    refine EV.pos (by omega) (EV.pos (by omega) ?_)
    have hr : rd_L1 l (i : Int) = l[i]'(by omega) := by simp [rd_L1, show i < l.length by omega]
    rw [List.drop_eq_getElem_cons (show i < l.length by omega), List.all_cons, hr]
    by_cases h1 : ((l[i]'(by omega)).length : Int) > 80
    · refine EV.pos h1 ((EV.const _).to ?_)
      rw [decide_eq_false (by omega)]; rfl
    · refine EV.neg h1 ?_
      rw [wsucc i (by omega), decide_eq_true (by omega), Bool.true_and]
      exact few_l0 l hl d (i + 1) (by omega)
def fewB (n : Int) (l : List (List Int)) : Bool := decide (n ≤ 60) && decide (l.length ≤ 40) && l.all fun r => decide (r.length ≤ 80)
theorem few_ev (n : Int) (l : List (List Int)) (hl : l.length ≤ 9223372036854775807) : EV (fun k => mosaiclaw12_Few.f k n l) (fewB n l) := by
  unfold fewB mosaiclaw12_Few.f
  by_cases h1 : n > 60
  · refine EV.pos h1 (EV.succ ?_)
    simp only [mosaiclaw12_Few.j0]
    refine EV.pos trivial ((EV.const _).to ?_)
    rw [decide_eq_false (by omega)]; rfl
  · refine EV.neg h1 (EV.succ ?_)
    simp only [mosaiclaw12_Few.j0]
    rw [decide_eq_true (show n ≤ 60 by omega)]
    by_cases h2 : (l.length : Int) > 40
    · refine EV.pos (decide_eq_true h2) ((EV.const _).to ?_)
      rw [decide_eq_false (p := l.length ≤ 40) (by omega)]; rfl
    · refine EV.neg (by simpa using h2) ?_
      rw [decide_eq_true (p := l.length ≤ 40) (by omega)]
      have := few_l0 l hl l.length 0 (by omega)
      simpa using this
def size0 (l : List ByteArray) : Nat := (rdOf ByteArray.empty l 0).size
def sizeOk (l : List ByteArray) (b : ByteArray) : Bool := decide (1 ≤ b.size) && decide (b.size ≤ 64) && decide (b.size = size0 l)
theorem sized_l0 (l : List ByteArray) (hl : l.length ≤ 9223372036854775807) : ∀ (d i : Nat), i + d = l.length → EV (fun k => mosaicref09_Sized.l0 k l (i : Int)) ((l.drop i).all (sizeOk l) && decide (0 < l.length))
  | 0, i, h => by
    refine EV.succ ?_
    simp only [mosaicref09_Sized.l0]
    rw [List.drop_eq_nil_of_le (by omega)]
    refine EV.neg (by omega) ((EV.const _).to ?_)
    simp
  | d + 1, i, h => by
    refine EV.succ ?_
    simp only [mosaicref09_Sized.l0]
    refine EV.pos (by omega) (EV.pos (by omega) ?_)
    have hr : rdOf ByteArray.empty l (i : Int) = l[i]'(by omega) := by simp [rdOf, show i < l.length by omega]
    rw [List.drop_eq_getElem_cons (show i < l.length by omega), List.all_cons, hr]
    by_cases h1 : 1 ≤ (l[i]'(by omega)).size ∧ (l[i]'(by omega)).size ≤ 64
    · refine EV.bind (r := true) (EV.now ?_) ?_
      · unfold mosaicref07_May.f
        rw [if_pos (by omega), decide_eq_true (by omega)]
      refine EV.pos rfl (EV.pos (by omega) ?_)
      by_cases h2 : (l[i]'(by omega)).size = size0 l
      · refine EV.pos (by unfold size0 at h2; omega) ?_
        have : sizeOk l (l[i]'(by omega)) = true := by unfold sizeOk; rw [decide_eq_true h1.1, decide_eq_true h1.2, decide_eq_true h2]; rfl
        rw [this, Bool.true_and, wsucc i (by omega)]
        exact sized_l0 l hl d (i + 1) (by omega)
      · refine EV.neg (by unfold size0 at h2; omega) ((EV.const _).to ?_)
        have : sizeOk l (l[i]'(by omega)) = false := by unfold sizeOk; rw [decide_eq_false h2]; simp
        rw [this]; rfl
    · refine EV.bind (r := false) (EV.now ?_) ?_
      · unfold mosaicref07_May.f
        by_cases h2 : ((l[i]'(by omega)).size : Int) ≥ 1
        · rw [if_pos h2, decide_eq_false (by omega)]
        · rw [if_neg h2]
      refine EV.neg (by decide) ((EV.const _).to ?_)
      have : sizeOk l (l[i]'(by omega)) = false := by
        unfold sizeOk
        by_cases h2 : 1 ≤ (l[i]'(by omega)).size
        · rw [decide_eq_false (p := (l[i]'(by omega)).size ≤ 64) (fun h => h1 ⟨h2, h⟩)]; simp
        · rw [decide_eq_false h2]; rfl
      rw [this]; rfl
def sizedB (l : List ByteArray) : Bool := l.all (sizeOk l) && decide (0 < l.length)
theorem sized_ev (l : List ByteArray) (hl : l.length ≤ 9223372036854775807) : EV (fun k => mosaicref09_Sized.f k l) (sizedB l) := by
  have := sized_l0 l hl l.length 0 (by omega)
  rw [List.drop_zero] at this
  exact this
theorem has_l0 (l : List Int) (x : Int) (hl : l.length ≤ 9223372036854775807) : ∀ (d i : Nat), i + d = l.length → EV (fun k => mosaicref09_Has.l0 k l x (i : Int)) ((l.drop i).any fun a => decide (a = x))
  | 0, i, h => by
    refine EV.succ ?_
    simp only [mosaicref09_Has.l0]
    rw [List.drop_eq_nil_of_le (by omega)]
    exact EV.neg (by omega) (EV.const _)
  | d + 1, i, h => by
    refine EV.succ ?_
    simp only [mosaicref09_Has.l0]
    refine EV.pos (by omega) (EV.pos (by omega) ?_)
    have hr : rd l (i : Int) = l[i]'(by omega) := by simp [rd, show i < l.length by omega]
    rw [List.drop_eq_getElem_cons (show i < l.length by omega), List.any_cons, hr]
    by_cases h1 : l[i]'(by omega) = x
    · refine EV.pos h1 ((EV.const _).to ?_)
      rw [decide_eq_true h1]; rfl
    · refine EV.neg h1 ?_
      rw [decide_eq_false h1, Bool.false_or, wsucc i (by omega)]
      exact has_l0 l x hl d (i + 1) (by omega)
def hasB (l : List Int) (x : Int) : Bool := l.any fun a => decide (a = x)
theorem has_ev (l : List Int) (x : Int) (hl : l.length ≤ 9223372036854775807) : EV (fun k => mosaicref09_Has.f k l x) (hasB l x) := by
  have := has_l0 l x hl l.length 0 (by omega)
  rw [List.drop_zero] at this
  exact this
theorem repeat_zero : ∀ n : Nat, Lib.repeatL [(0 : UInt8)] n = List.replicate n 0
  | 0 => rfl
  | n + 1 => by
    show [(0 : UInt8)] ++ Lib.repeatL [(0 : UInt8)] n = _
    rw [repeat_zero n]; rfl
theorem nums_zero (n : Nat) : strOfNums (List.replicate n 0) = zeroB n := by
  refine bytes_ext ?_ fun j => ?_
  · rw [strOfNums_size, List.length_replicate, zeroB_size]
  · show ((strOfNums (List.replicate n 0)).data[j]?).getD 0 = ((Lib.repeatL [0] n).toArray[j]?).getD 0
    rw [← Array.getElem?_toList, strOfNums_data, List.getElem?_map]
    by_cases hj : j < n
    · rw [List.getElem?_replicate, if_pos hj]
      have : (Lib.repeatL [(0 : UInt8)] n).toArray[j]? = some 0 := by
        rw [List.getElem?_toArray, repeat_zero, List.getElem?_replicate, if_pos hj]
      rw [this]; rfl
    · rw [List.getElem?_replicate, if_neg hj]
      have : (Lib.repeatL [0] n).toArray[j]? = none := Array.getElem?_eq_none (by rw [List.size_toArray, Lib.repeatL_length]; simp; omega)
      rw [this]; rfl
theorem zero7_l0 (n : Nat) (h1 : 1 ≤ n) (h2 : n ≤ 64) : ∀ (d i : Nat), i + d = n → EV (fun k => mosaicref07_Zero.l0 k (n : Int) (List.replicate i 0) (i : Int)) (zeroB n)
  | 0, i, h => by
    refine EV.succ ?_
    simp only [mosaicref07_Zero.l0]
    refine EV.neg (by omega) ((EV.const _).to ?_)
    rw [nums_zero, show i = n by omega]
  | d + 1, i, h => by
    refine EV.succ ?_
    simp only [mosaicref07_Zero.l0]
    refine EV.pos (by omega) (EV.bind (r := true) (EV.now ?_) ?_)
    · unfold mosaicref07_May.f
      rw [if_pos (by omega), decide_eq_true (by omega)]
    refine EV.pos rfl (EV.pos (by rw [List.length_replicate]; omega) ?_)
    rw [wsucc i (by omega), ← List.replicate_succ']
    exact zero7_l0 n h1 h2 d (i + 1) (by omega)
theorem zero7_ev (n : Nat) (h1 : 1 ≤ n) (h2 : n ≤ 64) : EV (fun k => mosaicref07_Zero.f k (n : Int)) (zeroB n) := zero7_l0 n h1 h2 n 0 (by omega)
def xors (a b : ByteArray) (k : Nat) : List Int := (List.range k).map fun j : Nat => Go.bits .xor .u8 (bt a (j : Int)) (bt b (j : Int))
theorem xor7_l0 (a b : ByteArray) (he : a.size = b.size) (hl : a.size ≤ 1000000) : ∀ (d i : Nat), i + d = a.size → EV (fun k => mosaicref07_Xor.l0 k a b (xors a b i) (i : Int)) (xorB a b, 0)
  | 0, i, h => by
    refine EV.succ ?_
    simp only [mosaicref07_Xor.l0]
    refine EV.neg (by omega) ((EV.const _).to ?_)
    have : xors a b i = mixB a b a.size := by
      rw [show i = a.size by omega]
      unfold xors mixB
      refine List.map_congr_left fun j hj => ?_
      rw [if_pos (List.mem_range.1 hj)]
    rw [this, mixB_done a b he]
  | d + 1, i, h => by
    refine EV.succ ?_
    simp only [mosaicref07_Xor.l0]
    refine EV.pos (by omega) (EV.pos (by omega) (EV.pos (by omega) (EV.pos (by rw [xors, List.length_map, List.length_range]; omega) ?_)))
    have : xors a b i ++ [Go.bits .xor .u8 (bt a (i : Int)) (bt b (i : Int))] = xors a b (i + 1) := by simp [xors, List.range_succ]
    rw [this, wsucc i (by omega)]
    exact xor7_l0 a b he hl d (i + 1) (by omega)
theorem xor7_ev (a b : ByteArray) (he : a.size = b.size) (hl : a.size ≤ 1000000) : EV (fun k => mosaicref07_Xor.f k a b) (xorB a b, 0) := by
  unfold mosaicref07_Xor.f
  exact EV.pos (by omega) (show EV (fun k => mosaicref07_Xor.l0 k a b (xors a b 0) ((0 : Nat) : Int)) (xorB a b, 0) from xor7_l0 a b he hl a.size 0 (by omega))
def sumL (bs : List ByteArray) (z : ByteArray) (at_ : List Int) : ByteArray := at_.foldl (fun s i => xorB s (rdOf ByteArray.empty bs i)) z
theorem sum_l0 (bs : List ByteArray) (l : List Int) (sz : Nat) (hsz : sz ≤ 64) (hb : ∀ b ∈ bs, b.size = sz) (hin : ∀ i ∈ l, 0 ≤ i ∧ i < (bs.length : Int)) (hl : l.length ≤ 9223372036854775807) :
    ∀ (d i : Nat) (s : ByteArray), i + d = l.length → s.size = sz → EV (fun k => mosaicref09_Sum.l0 k bs l s (i : Int)) (sumL bs s (l.drop i))
  | 0, i, s, h, hs => by
    refine EV.succ ?_
    simp only [mosaicref09_Sum.l0]
    rw [List.drop_eq_nil_of_le (by omega)]
    exact EV.neg (by omega) (EV.const _)
  | d + 1, i, s, h, hs => by
    refine EV.succ ?_
    simp only [mosaicref09_Sum.l0]
    have hr : rd l (i : Int) = l[i]'(by omega) := by simp [rd, show i < l.length by omega]
    have hm := hin (l[i]'(by omega)) (List.getElem_mem _)
    rw [List.drop_eq_getElem_cons (show i < l.length by omega), hr]
    obtain ⟨x, hx⟩ : ∃ x, x = l[i]'(by omega) := ⟨_, rfl⟩
    rw [← hx] at hm ⊢
    refine EV.pos (by omega) (EV.pos (by omega) (EV.pos hm.1 (EV.pos hm.2 ?_)))
    have hbs : (rdOf ByteArray.empty bs x).size = sz := by
      have hlt : x.toNat < bs.length := by omega
      have : rdOf ByteArray.empty bs x = bs[x.toNat] := by simp [rdOf, hlt]
      rw [this]; exact hb _ (List.getElem_mem _)
    refine EV.bind (r := (xorB s (rdOf ByteArray.empty bs x), 0)) (xor7_ev s _ (hs.trans hbs.symm) (by omega)) ?_
    rw [wsucc i (by omega)]
    exact sum_l0 bs l sz hsz hb hin hl d (i + 1) _ (by omega) (xorB_size hs hbs)
def sumB (bs : List ByteArray) (at_ : List Int) : ByteArray := sumL bs (zeroB (size0 bs)) at_
theorem sized_parts {bs : List ByteArray} (h : sizedB bs = true) : (1 ≤ size0 bs ∧ size0 bs ≤ 64) ∧ 0 < bs.length ∧ ∀ b ∈ bs, b.size = size0 bs := by
  unfold sizedB at h
  simp only [Bool.and_eq_true, List.all_eq_true, decide_eq_true_eq, sizeOk] at h
  obtain ⟨h1, h2⟩ := h
  have h3 := h1 bs[0] (List.getElem_mem h2)
  rw [h3.2] at h3
  exact ⟨h3.1, h2, fun b hb => (h1 b hb).2⟩
theorem sum_ev (bs : List ByteArray) (l : List Int) (hz : sizedB bs = true) (hin : ∀ i ∈ l, 0 ≤ i ∧ i < (bs.length : Int)) (hl : l.length ≤ 9223372036854775807) : EV (fun k => mosaicref09_Sum.f k bs l (size0 bs : Int)) (sumB bs l) := by
  obtain ⟨h1, h2, h3⟩ := sized_parts hz
  unfold mosaicref09_Sum.f
  exact EV.bind (zero7_ev _ h1.1 h1.2) (sum_l0 bs l (size0 bs) h1.2 h3 hin hl l.length 0 _ (by omega) (zeroB_size _))
theorem sumL_size (bs : List ByteArray) (sz : Nat) (hb : ∀ b ∈ bs, b.size = sz) : ∀ (l : List Int) (s : ByteArray), (∀ i ∈ l, 0 ≤ i ∧ i < (bs.length : Int)) → s.size = sz → (sumL bs s l).size = sz
  | [], s, _, hs => hs
  | x :: l, s, hin, hs => by
    have hm := hin x (by simp)
    have hlt : x.toNat < bs.length := by omega
    have : rdOf ByteArray.empty bs x = bs[x.toNat] := by simp [rdOf, hlt]
    show (sumL bs (xorB s (rdOf ByteArray.empty bs x)) l).size = sz
    exact sumL_size bs sz hb l _ (fun i hi => hin i (by simp [hi])) (xorB_size hs (by rw [this]; exact hb _ (List.getElem_mem _)))
def fixedL (n : Int) (rows : List (List Int)) : List Int := ((leftOf n rows).filter fun s => decide ((lst s.x).length = 1)).map fun s => rd (lst s.x) 0
theorem fixed_l0 (L : List Sd) (hL : L.length ≤ 400) : ∀ (d i : Nat) (o : List Int), i + d = L.length → o.length ≤ i →
    EV (fun k => gauss_Fixed.l0 k 0 o (L.map fun s => lst s.x) (L.length : Int) (i : Int)) (o ++ ((L.drop i).filter fun s => decide ((lst s.x).length = 1)).map (fun s => rd (lst s.x) 0), 0)
  | 0, i, o, h, ho => by
    refine EV.succ ?_
    simp only [gauss_Fixed.l0]
    rw [List.drop_eq_nil_of_le (by omega)]
    exact EV.neg (by omega) ((EV.const _).to (by simp))
  | d + 1, i, o, h, ho => by
    refine EV.succ ?_
    simp only [gauss_Fixed.l0]
    have hr : rd_L1 (L.map fun s => lst s.x) (i : Int) = lst (L[i]'(by omega)).x := by simp [rd_L1, show i < L.length by omega]
    rw [List.drop_eq_getElem_cons (show i < L.length by omega), hr]
    refine EV.pos (by omega) (EV.pos (by omega) (EV.pos (by rw [List.length_map]; omega) ?_))
    by_cases h1 : (lst (L[i]'(by omega)).x).length = 1
    · refine EV.pos (by omega) (EV.pos (by omega) (EV.pos (by omega) ?_))
      rw [wsucc i (by omega), List.filter_cons_of_pos (by simpa using h1), List.map_cons]
      refine (fixed_l0 L hL d (i + 1) _ (by omega) (by simp; omega)).to ?_
      simp
    · refine EV.neg (by omega) ?_
      rw [wsucc i (by omega), List.filter_cons_of_neg (by simpa using h1)]
      exact fixed_l0 L hL d (i + 1) o (by omega) (by omega)
theorem fixed_ev (n : Int) (rows : List (List Int)) (h : mayB n rows = true) : EV (fun k => gauss_Fixed.f k n rows) (fixedL n rows, 0) := by
  have hr : gauss_Reduce.f n rows = some ((leftOf n rows).map (fun s => lst s.x), 0) := by unfold gauss_Reduce.f; rw [h, if_pos rfl]
  unfold gauss_Fixed.f
  refine EV.bind (EV.now hr) ?_
  have hlen : (leftOf n rows).length ≤ 400 := by
    obtain ⟨p1, p2, p3, p4⟩ := may_parts h
    have := run_len n.toNat 0 (rows.map sideOf) (fun s hs => by obtain ⟨r, _, rfl⟩ := List.mem_map.1 hs; rfl) n.toNat 0 (rows.map sideOf) [] (by simp)
    rw [List.length_map] at this
    show (Red.run n.toNat 0 (rows.map sideOf) []).2.length ≤ 400
    omega
  have := fixed_l0 (leftOf n rows) hlen (leftOf n rows).length 0 [] (by omega) (by simp)
  rw [List.drop_zero, List.nil_append] at this
  simp only [List.length_map]
  exact this
end Go.Proofs.Ytgcgnnblgimegaa.P
