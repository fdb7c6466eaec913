/- What the claim on this statement wants of the text YtgcgnnblgimegaaETrueEv. Not trusted: Lean checks it. -/
import Derived.Test.YtgcgnnblgimegaaK2Px8
import Derived.Test.YtgcgnnblgimegaaK2ESolve
namespace Go.Proofs.Ytgcgnnblgimegaa.P
open Go.RowKit Go.Proofs.YtgcgnnblgimegaaW.PrintWords Go.Proofs.YtgcgnnblgimegaaW.PrintLast Go.Proofs.YtgcgnnblgimegaaW.PrintMore
open Go.Proofs.Ytgcgnnblgimegaa.Red
set_option linter.unusedVariables false
set_option linter.unusedSimpArgs false
theorem wsucc (i : Nat) (h : i + 1 ≤ 9223372036854775807) : wrap64 ((i : Int) + 1) = ((i + 1 : Nat) : Int) := by rw [w64 _ (by omega) (by omega)]; rfl
theorem awake_true : mosaiclaw12_awake.f 200 = some true := by decide +kernel
def size0 (l : List ByteArray) : Nat := (rdOf ByteArray.empty l 0).size
theorem has_l0 (l : List Int) (x : Int) (hl : l.length ≤ 9223372036854775807) : ∀ (d i : Nat), i + d = l.length → EV (fun k => mosaicref09_Has.l0 k l x (i : Int)) ((l.drop i).any fun a => decide (a = x))
  | 0, i, h => by
    refine EV.succ ?_
    simp only [mosaicref09_Has.l0]
    rw [List.drop_eq_nil_of_le (by omega)]
    exact EV.neg (by omega) (EV.const _)
  | d + 1, i, h => by
    refine EV.succ ?_
    simp only [mosaicref09_Has.l0]
    refine EV.pos (by omega) (EV.pos (by omega) ?_)
    have hr : rd l (i : Int) = l[i]'(by omega) := by simp [rd, show i < l.length by omega]
    rw [List.drop_eq_getElem_cons (show i < l.length by omega), List.any_cons, hr]
    by_cases h1 : l[i]'(by omega) = x
    · refine EV.pos h1 ((EV.const _).to ?_)
      rw [decide_eq_true h1]; rfl
    · refine EV.neg h1 ?_
      rw [decide_eq_false h1, Bool.false_or, wsucc i (by omega)]
      exact has_l0 l x hl d (i + 1) (by omega)
def hasB (l : List Int) (x : Int) : Bool := l.any fun a => decide (a = x)
theorem has_ev (l : List Int) (x : Int) (hl : l.length ≤ 9223372036854775807) : EV (fun k => mosaicref09_Has.f k l x) (hasB l x) := by
  have := has_l0 l x hl l.length 0 (by omega)
  rw [List.drop_zero] at this
  exact this
theorem repeat_zero : ∀ n : Nat, Lib.repeatL [(0 : UInt8)] n = List.replicate n 0
  | 0 => rfl
  | n + 1 => by
    show [(0 : UInt8)] ++ Lib.repeatL [(0 : UInt8)] n = _
    rw [repeat_zero n]; rfl
theorem nums_zero (n : Nat) : strOfNums (List.replicate n 0) = zeroB n := by
  refine bytes_ext ?_ fun j => ?_
  · rw [strOfNums_size, List.length_replicate, zeroB_size]
  · show ((strOfNums (List.replicate n 0)).data[j]?).getD 0 = ((Lib.repeatL [0] n).toArray[j]?).getD 0
    rw [← Array.getElem?_toList, strOfNums_data, List.getElem?_map]
    by_cases hj : j < n
    · rw [List.getElem?_replicate, if_pos hj]
      have : (Lib.repeatL [(0 : UInt8)] n).toArray[j]? = some 0 := by
        rw [List.getElem?_toArray, repeat_zero, List.getElem?_replicate, if_pos hj]
      rw [this]; rfl
    · rw [List.getElem?_replicate, if_neg hj]
      have : (Lib.repeatL [0] n).toArray[j]? = none := Array.getElem?_eq_none (by rw [List.size_toArray, Lib.repeatL_length]; simp; omega)
      rw [this]; rfl
theorem zero7_l0 (n : Nat) (h1 : 1 ≤ n) (h2 : n ≤ 64) : ∀ (d i : Nat), i + d = n → EV (fun k => mosaicref07_Zero.l0 k (n : Int) (List.replicate i 0) (i : Int)) (zeroB n)
  | 0, i, h => by
    refine EV.succ ?_
    simp only [mosaicref07_Zero.l0]
    refine EV.neg (by omega) ((EV.const _).to ?_)
    rw [nums_zero, show i = n by omega]
  | d + 1, i, h => by
    refine EV.succ ?_
    simp only [mosaicref07_Zero.l0]
    refine EV.pos (by omega) (EV.bind (r := true) (EV.now ?_) ?_)
    · unfold mosaicref07_May.f
      rw [if_pos (by omega), decide_eq_true (by omega)]
    refine EV.pos rfl (EV.pos (by rw [List.length_replicate]; omega) ?_)
    rw [wsucc i (by omega), ← List.replicate_succ']
    exact zero7_l0 n h1 h2 d (i + 1) (by omega)
theorem zero7_ev (n : Nat) (h1 : 1 ≤ n) (h2 : n ≤ 64) : EV (fun k => mosaicref07_Zero.f k (n : Int)) (zeroB n) := zero7_l0 n h1 h2 n 0 (by omega)
def xors (a b : ByteArray) (k : Nat) : List Int := (List.range k).map fun j : Nat => Go.bits .xor .u8 (bt a (j : Int)) (bt b (j : Int))
theorem xor7_l0 (a b : ByteArray) (he : a.size = b.size) (hl : a.size ≤ 1000000) : ∀ (d i : Nat), i + d = a.size → EV (fun k => mosaicref07_Xor.l0 k a b (xors a b i) (i : Int)) (xorB a b, 0)
  | 0, i, h => by
    refine EV.succ ?_
    simp only [mosaicref07_Xor.l0]
    refine EV.neg (by omega) ((EV.const _).to ?_)
    have : xors a b i = mixB a b a.size := by
      rw [show i = a.size by omega]
      unfold xors mixB
      refine List.map_congr_left fun j hj => ?_
      rw [if_pos (List.mem_range.1 hj)]
    rw [this, mixB_done a b he]
  | d + 1, i, h => by
    refine EV.succ ?_
    simp only [mosaicref07_Xor.l0]
    refine EV.pos (by omega) (EV.pos (by omega) (EV.pos (by omega) (EV.pos (by rw [xors, List.length_map, List.length_range]; omega) ?_)))
    have : xors a b i ++ [Go.bits .xor .u8 (bt a (i : Int)) (bt b (i : Int))] = xors a b (i + 1) := by simp [xors, List.range_succ]
    rw [this, wsucc i (by omega)]
    exact xor7_l0 a b he hl d (i + 1) (by omega)
theorem xor7_ev (a b : ByteArray) (he : a.size = b.size) (hl : a.size ≤ 1000000) : EV (fun k => mosaicref07_Xor.f k a b) (xorB a b, 0) := by
  unfold mosaicref07_Xor.f
  exact EV.pos (by omega) (show EV (fun k => mosaicref07_Xor.l0 k a b (xors a b 0) ((0 : Nat) : Int)) (xorB a b, 0) from xor7_l0 a b he hl a.size 0 (by omega))
end Go.Proofs.Ytgcgnnblgimegaa.P
