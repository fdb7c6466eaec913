/- What the claim on this statement wants of the text YtgcgnnblgimegaaERefOps. Not trusted: Lean checks it. -/
import Derived.Test.YtgcgnnblgimegaaK2ERefKit
import Derived.Test.YtgcgnnblgimegaaK2Px7
namespace Go.Proofs.Ytgcgnnblgimegaa.P
open Go.RowKit Go.Proofs.YtgcgnnblgimegaaW.PrintWords Go.Proofs.YtgcgnnblgimegaaW.PrintLast Go.Proofs.YtgcgnnblgimegaaW.PrintMore
open Go.Proofs.Ytgcgnnblgimegaa.Red
set_option linter.unusedVariables false
set_option linter.unusedSimpArgs false
def addTo (a b : List Int) (k : Nat) : List Int := ((List.range k).filter fun i : Nat => hasB a (i : Int) != hasB b (i : Int)).map Int.ofNat
theorem addTo_succ (a b : List Int) (k : Nat) : addTo a b (k + 1) = if (hasB a (k : Int) != hasB b (k : Int)) = true then addTo a b k ++ [(k : Int)] else addTo a b k := by
  unfold addTo
  rw [List.range_succ, List.filter_append, List.map_append]
  cases h : (hasB a (k : Int) != hasB b (k : Int)) <;> simp [h]
theorem addTo_len (a b : List Int) (k : Nat) : (addTo a b k).length ≤ k := by
  unfold addTo
  rw [List.length_map]
  exact Nat.le_trans (List.length_filter_le _ _) (by simp)
theorem add_l0 (n : Nat) (hn : n ≤ 1000000) (a b : List Int) (ha : a.length ≤ 9223372036854775807) (hb : b.length ≤ 9223372036854775807) : ∀ (d i : Nat), i + d = n → EV (fun k => mosaicref12_Add.l0 k (n : Int) a b (addTo a b i) (i : Int)) (addTo a b n)
  | 0, i, h => by
    refine EV.succ ?_
    simp only [mosaicref12_Add.l0]
    rw [show i = n by omega]
    exact EV.neg (by omega) (EV.const _)
  | d + 1, i, h => by
    refine EV.succ ?_
    simp only [mosaicref12_Add.l0]
    refine EV.pos (by omega) (EV.bind (has_ev a (i : Int) ha) (EV.bind (has_ev b (i : Int) hb) ?_))
    have ih := add_l0 n hn a b ha hb d (i + 1) (by omega)
    have hlen := addTo_len a b i
    rw [addTo_succ] at ih
    rw [wsucc i (by omega)]
    by_cases h1 : (hasB a (i : Int) != hasB b (i : Int)) = true
    · rw [if_pos h1] at ih
      exact EV.pos h1 (EV.pos (by omega) ih)
    · rw [if_neg h1] at ih
      exact EV.neg h1 ih
theorem add_ev (n : Nat) (hn : n ≤ 1000000) (a b : List Int) (ha : a.length ≤ 9223372036854775807) (hb : b.length ≤ 9223372036854775807) : EV (fun k => mosaicref12_Add.f k (n : Int) a b) (addTo a b n) := add_l0 n hn a b ha hb n 0 (by omega)
def plusB (n : Nat) (s t : S41) : S41 := ⟨addTo s.f0 t.f0 n, xorB s.f1 t.f1⟩
theorem plus_ev (n : Nat) (hn : n ≤ 1000000) (s t : S41) (hs : s.f0.length ≤ 9223372036854775807) (ht : t.f0.length ≤ 9223372036854775807) (he : s.f1.size = t.f1.size) (hz : s.f1.size ≤ 64) :
    EV (fun k => mosaicref12_plus.f k (n : Int) s.f0 s.f1 t.f0 t.f1) (addTo s.f0 t.f0 n, xorB s.f1 t.f1) := by
  unfold mosaicref12_plus.f
  exact EV.bind (xor7_ev _ _ he (by omega)) (EV.bind (add_ev n hn _ _ hs ht) (EV.const _))
theorem plusR_calls (B n : Nat) (hn : n ≤ 1000000) (s t : Eq4) (W : World) (hs : RowOk B W s) (ht : RowOk B W t) (he : s.b.size = t.b.size) (hz : s.b.size ≤ 64) :
    Calls Try.prog 81 #[.int .i64 n, .agg #[.slice s.A s.l.length s.c, .string s.b], .agg #[.slice t.A t.l.length t.c, .string t.b]] W fun e w' =>
      ∃ u : Eq4, e = .returned (.agg #[.slice u.A u.l.length u.c, .string u.b]) ∧ u.s = plusB n s.s t.s ∧ RowOk B w' u ∧ Below W.heap.size W w' := by
  obtain ⟨k, hk⟩ := (plus_ev n hn s.s t.s hs.rd.2.1 ht.rd.2.1 he hz).ex
  refine (mosaicref12_plus.calls k n s.A s.c s.l s.b t.A t.c t.l t.b _ _ W hs.rd hs.len ht.rd ht.len hk).mono fun e w' h => ?_
  obtain ⟨v, rfl, hR, hb⟩ := h
  obtain ⟨A, c, e⟩ := Kd.R_slice hR
  subst e
  exact ⟨⟨A, c, addTo s.l t.l n, xorB s.b t.b⟩, rfl, rfl, RowOk.own _ hR, hb⟩
def firstB (n : Int) (l : List Int) : Int := if l.length = 0 then n else rd l 0
theorem firstR_calls (B : Nat) (n : Int) (s : Eq4) (W : World) (hs : RowOk B W s) :
    Calls Try.prog 80 #[.int .i64 n, .agg #[.slice s.A s.l.length s.c, .string s.b]] W fun e w' => e = .returned (.int .i64 (firstB n s.l)) ∧ Below W.heap.size W w' :=
  mosaicref12_first.calls n s.A s.c s.l s.b _ W hs.rd hs.len (by
    unfold mosaicref12_first.f firstB
    by_cases h : s.l.length = 0
    · rw [if_pos (by omega), if_pos h]
    · rw [if_neg (by omega), if_pos (by omega), if_neg h])
theorem hasR_calls (B : Nat) (x : Int) (s : Eq4) (W : World) (hs : RowOk B W s) :
    Calls Try.prog 19 #[.slice s.A s.l.length s.c, .int .i64 x] W fun e w' => e = .returned (.bool (hasB s.l x)) ∧ Drawn0 W w' := by
  obtain ⟨k, hk⟩ := (has_ev s.l x hs.rd.2.1).ex
  exact mosaicref09_Has.calls k s.A s.c s.l x _ W hs.rd hs.len hk
def red1 (n : Nat) (x : S41) (L : List S41) : S41 := L.foldl (fun x y => if hasB x.f0 (firstB n y.f0) then plusB n x y else x) x
def red2 (n : Nat) (x : S41) (st : List S41 × Bool) (y : S41) : List S41 × Bool :=
  let y' := if hasB y.f0 (firstB n x.f0) then plusB n y x else y
  if (!st.2 && decide (firstB n x.f0 < firstB n y'.f0)) then (st.1 ++ [x] ++ [y'], true) else (st.1 ++ [y'], st.2)
def redL (n : Nat) (x : S41) (L : List S41) : List S41 := let st := L.foldl (red2 n x) ([], false); if st.2 then st.1 else st.1 ++ [x]
def redS (n : Nat) (st : List S41 × List ByteArray) (x : S41) : List S41 × List ByteArray :=
  let x' := red1 n x st.1
  if x'.f0.length = 0 then (st.1, st.2 ++ [x'.f1]) else (redL n x' st.1, st.2)
def redR (n : Nat) (l : List S41) : List S41 × List ByteArray := l.foldl (redS n) ([], [])
end Go.Proofs.Ytgcgnnblgimegaa.P
