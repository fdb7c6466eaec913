/- What the claim on this statement wants of the text YtaomblcecjaedaaShaRef. Not trusted: Lean checks it. -/
import Derived.Test.YtaomblcecjaedaaK4Code
import Derived.Test.YtaomblcecjaedaaK4Px10
namespace Go.Proofs.Ytaomblcecjaedaa.P
open Go.RowKit Go.Proofs.YtaomblcecjaedaaW.PrintWords Go.Proofs.YtaomblcecjaedaaW.PrintMore
theorem bits_or_comm (x y : Int) : Go.bits .or .u32 x y = Go.bits .or .u32 y x := by
  unfold Go.bits
  simp only [BitVec.or_comm]
theorem ref_rotr (x : Int) (n : Nat) (h0 : 0 < n) (h : n < 32) : mosaicref01_rotr.f x (n : Int) = some (R (n : Int) x) := by
  have t1 : ∀ m : Fin 32, 0 < m.1 → Go.bits .and .u64 (IntKind.u64.wrap (wrap64 (-((m.1 : Nat) : Int)))) 31 = 32 - ((m.1 : Nat) : Int) := by decide +kernel
  have e1 := t1 ⟨n, h⟩ h0
  have e2 : IntKind.u64.wrap (32 - (n : Int)) = 32 - (n : Int) := by simp [IntKind.wrap, IntKind.bits, IntKind.signed]; omega
  have e3 : IntKind.u64.wrap (32 - (32 - (n : Int))) = (n : Int) := by simp [IntKind.wrap, IntKind.bits, IntKind.signed]; omega
  simp only at e1
  unfold mosaicref01_rotr.f R sha_rotr.f bits_RotateLeft32.f
  rw [e1, e2, e3, if_pos (by omega), if_pos (by omega), if_pos (by omega), if_pos (by omega), bits_or_comm]
  rfl
theorem bits_or_nat (x y : Nat) (hx : x < 4294967296) (hy : y < 4294967296) : Go.bits .or .u32 (x : Int) (y : Int) = ((x ||| y : Nat) : Int) := by
  have hxy : x ||| y < 4294967296 := Nat.or_lt_two_pow (n := 32) hx hy
  have h2 : (2 ^ IntKind.u32.bits : Nat) = 4294967296 := rfl
  have e : ((BitVec.ofInt IntKind.u32.bits (x : Int)) ||| (BitVec.ofInt IntKind.u32.bits (y : Int))).toNat = x ||| y := by
    rw [BitVec.toNat_or, BitVec.toNat_ofInt, BitVec.toNat_ofInt, h2, show ((x : Int) % ((4294967296 : Nat) : Int)).toNat = x from by omega, show ((y : Int) % ((4294967296 : Nat) : Int)).toNat = y from by omega]
  show IntKind.u32.wrap (((BitVec.ofInt IntKind.u32.bits (x : Int)) ||| (BitVec.ofInt IntKind.u32.bits (y : Int))).toNat : Int) = _
  rw [e]
  simp [IntKind.wrap, IntKind.bits, IntKind.signed]
  omega
def wsum (b0 b1 b2 b3 : Int) : Int := (((((((b0 % 4294967296) * 16777216) % 4294967296) + (((b1 % 4294967296) * 65536) % 4294967296)) % 4294967296) + (((b2 % 4294967296) * 256) % 4294967296)) % 4294967296 + (b3 % 4294967296)) % 4294967296
theorem word_sum (b0 b1 b2 b3 : Nat) (h0 : b0 ≤ 255) (h1 : b1 ≤ 255) (h2 : b2 ≤ 255) (h3 : b3 ≤ 255) :
    Go.bits .or .u32 (Go.bits .or .u32 (Go.bits .or .u32 ((((b0 : Int) % 4294967296) * 16777216) % 4294967296) ((((b1 : Int) % 4294967296) * 65536) % 4294967296)) ((((b2 : Int) % 4294967296) * 256) % 4294967296)) ((b3 : Int) % 4294967296)
      = wsum b0 b1 b2 b3 := by
  have e0 : (((b0 : Int) % 4294967296) * 16777216) % 4294967296 = ((2 ^ 24 * b0 : Nat) : Int) := by omega
  have e1 : (((b1 : Int) % 4294967296) * 65536) % 4294967296 = ((2 ^ 16 * b1 : Nat) : Int) := by omega
  have e2 : (((b2 : Int) % 4294967296) * 256) % 4294967296 = ((2 ^ 8 * b2 : Nat) : Int) := by omega
  have e3 : (b3 : Int) % 4294967296 = ((b3 : Nat) : Int) := by omega
  unfold wsum
  rw [e0, e1, e2, e3, bits_or_nat _ _ (by omega) (by omega), ← Nat.two_pow_add_eq_or_of_lt (by omega : 2 ^ 16 * b1 < 2 ^ 24)]
  rw [show 2 ^ 24 * b0 + 2 ^ 16 * b1 = 2 ^ 16 * (2 ^ 8 * b0 + b1) from by omega, bits_or_nat _ _ (by omega) (by omega), ← Nat.two_pow_add_eq_or_of_lt (by omega : 2 ^ 8 * b2 < 2 ^ 16)]
  rw [show 2 ^ 16 * (2 ^ 8 * b0 + b1) + 2 ^ 8 * b2 = 2 ^ 8 * (2 ^ 16 * b0 + 2 ^ 8 * b1 + b2) from by omega, bits_or_nat _ _ (by omega) (by omega), ← Nat.two_pow_add_eq_or_of_lt (by omega : b3 < 2 ^ 8)]
  omega
theorem bt_nat (s : ByteArray) (i : Int) : ∃ b : Nat, bt s i = (b : Int) ∧ b ≤ 255 := by
  have := bt_range s i
  exact ⟨(bt s i).toNat, by omega, by omega⟩
theorem Wd_ref (s : ByteArray) (t : Nat) (h : 4 * t + 3 < s.size) (hm : s.size ≤ 1000) : Wd (bytesOf s) ((4 * t : Nat) : Int) =
    wsum (bt s ((4 * t : Nat) : Int)) (bt s ((4 * t + 1 : Nat) : Int)) (bt s ((4 * t + 2 : Nat) : Int)) (bt s ((4 * t + 3 : Nat) : Int)) := by
  have hl := bytesOf_length s
  have w1 : wrap64 (((4 * t : Nat) : Int) + 1) = ((4 * t + 1 : Nat) : Int) := by rw [w64 _ (by omega) (by omega)]; omega
  have w2 : wrap64 (((4 * t : Nat) : Int) + 2) = ((4 * t + 2 : Nat) : Int) := by rw [w64 _ (by omega) (by omega)]; omega
  have w3 : wrap64 (((4 * t : Nat) : Int) + 3) = ((4 * t + 3 : Nat) : Int) := by rw [w64 _ (by omega) (by omega)]; omega
  unfold Wd sha_word.f
  rw [w1, w2, w3, if_pos (by omega), if_pos (by omega), if_pos (by omega), if_pos (by omega), if_pos (by omega), if_pos (by omega), if_pos (by omega), if_pos (by omega), Option.getD_some]
  rw [rd_bytesOf, rd_bytesOf, rd_bytesOf, rd_bytesOf]
  obtain ⟨b0, e0, g0⟩ := bt_nat s ((4 * t : Nat) : Int)
  obtain ⟨b1, e1, g1⟩ := bt_nat s ((4 * t + 1 : Nat) : Int)
  obtain ⟨b2, e2, g2⟩ := bt_nat s ((4 * t + 2 : Nat) : Int)
  obtain ⟨b3, e3, g3⟩ := bt_nat s ((4 * t + 3 : Nat) : Int)
  rw [e0, e1, e2, e3]
  exact word_sum b0 b1 b2 b3 g0 g1 g2 g3
theorem take_set (l : List Int) (t : Nat) (v : Int) (h : t < l.length) : (l.set t v).take (t + 1) = l.take t ++ [v] := by
  apply List.ext_getElem?
  intro i
  rw [List.getElem?_take, List.getElem?_append, List.length_take, Nat.min_eq_left (by omega)]
  by_cases h1 : i < t
  · rw [if_pos (by omega), if_pos h1, List.getElem?_set_ne (by omega), List.getElem?_take, if_pos h1]
  · rw [if_neg h1]
    by_cases h2 : i = t
    · subst h2
      rw [if_pos (by omega), List.getElem?_set_self h]
      simp
    · rw [if_neg (by omega), List.getElem?_eq_none (by simp; omega)]
theorem rd_take (l : List Int) (t j : Nat) (h : j < t) : rd (l.take t) (j : Int) = rd l (j : Int) := by
  unfold rd
  simp only [Int.toNat_natCast, List.getD_eq_getElem?_getD, List.getElem?_take, if_pos h]
theorem words_l1 (s : ByteArray) : ∀ (m t : Nat), t + m = 64 → 16 ≤ t → EV (fun k => mosaicref01_Words.l1 k ((sched (bytesOf s) t).take t) (t : Int)) (sched (bytesOf s) 64)
  | 0, t, h, h16 => by
    obtain rfl : t = 64 := by omega
    refine EV.succ ?_
    simp only [mosaicref01_Words.l1]
    refine EV.neg (by omega) ((EV.const _).to ?_)
    rw [List.take_of_length_le (by rw [sched_len]; omega)]
  | m + 1, t, h, h16 => by
    have hl := sched_len (bytesOf s) t
    have hlt : ((sched (bytesOf s) t).take t).length = t := by rw [List.length_take, hl]; omega
    refine EV.succ ?_
    simp only [mosaicref01_Words.l1]
    rw [w64 ((t : Int) - 15) (by omega) (by omega), w64 ((t : Int) - 2) (by omega) (by omega), w64 ((t : Int) - 7) (by omega) (by omega), w64 ((t : Int) - 16) (by omega) (by omega), w64 ((t : Int) + 1) (by omega) (by omega), hlt]
    rw [show (t : Int) - 15 = ((t - 15 : Nat) : Int) from by omega, show (t : Int) - 2 = ((t - 2 : Nat) : Int) from by omega, show (t : Int) - 7 = ((t - 7 : Nat) : Int) from by omega, show (t : Int) - 16 = ((t - 16 : Nat) : Int) from by omega]
    rw [rd_take _ t (t - 15) (by omega), rd_take _ t (t - 2) (by omega), rd_take _ t (t - 7) (by omega), rd_take _ t (t - 16) (by omega)]
    refine EV.pos (by omega) (EV.pos (by omega) (EV.pos (by omega) (EV.pos (by omega) (EV.pos (by omega) ?_))))
    have r7 := ref_rotr (rd (sched (bytesOf s) t) ((t - 15 : Nat) : Int)) 7 (by decide) (by decide)
    have r18 := ref_rotr (rd (sched (bytesOf s) t) ((t - 15 : Nat) : Int)) 18 (by decide) (by decide)
    have r17 := ref_rotr (rd (sched (bytesOf s) t) ((t - 2 : Nat) : Int)) 17 (by decide) (by decide)
    have r19 := ref_rotr (rd (sched (bytesOf s) t) ((t - 2 : Nat) : Int)) 19 (by decide) (by decide)
    simp only [Int.cast_ofNat_Int] at r7 r18 r17 r19
    rw [r7, r18, r17, r19]
    simp only [Option.bind_some]
    refine EV.pos (by omega) (EV.pos (by omega) (EV.pos (by omega) (EV.pos (by omega) (EV.pos (by omega) ?_))))
    have ih := words_l1 s m (t + 1) (by omega) (by omega)
    have e : (sched (bytesOf s) (t + 1)).take (t + 1) = (sched (bytesOf s) t).take t ++ [schedAt (bytesOf s) (sched (bytesOf s) t) t] := take_set _ _ _ (by rw [hl]; omega)
    rw [e] at ih
    refine EV.of_eq ?_ ih
    intro k
    congr 3
    unfold schedAt
    rw [if_neg (by omega)]
    generalize rd (sched (bytesOf s) t) ((t - 7 : Nat) : Int) = p
    generalize rd (sched (bytesOf s) t) ((t - 16 : Nat) : Int) = q
    generalize Go.bits BinOp.xor IntKind.u32 (Go.bits BinOp.xor IntKind.u32 (R 17 (rd (sched (bytesOf s) t) ((t - 2 : Nat) : Int))) (R 19 (rd (sched (bytesOf s) t) ((t - 2 : Nat) : Int)))) (rd (sched (bytesOf s) t) ((t - 2 : Nat) : Int) / 1024) = A
    generalize Go.bits BinOp.xor IntKind.u32 (Go.bits BinOp.xor IntKind.u32 (R 7 (rd (sched (bytesOf s) t) ((t - 15 : Nat) : Int))) (R 18 (rd (sched (bytesOf s) t) ((t - 15 : Nat) : Int)))) (rd (sched (bytesOf s) t) ((t - 15 : Nat) : Int) / 8) = B
    omega
theorem words_l0 (s : ByteArray) (hs : s.size = 64) : ∀ (m t : Nat), t + m = 16 → EV (fun k => mosaicref01_Words.l0 k s ((sched (bytesOf s) t).take t) (t : Int)) (sched (bytesOf s) 64)
  | 0, t, h => by
    obtain rfl : t = 16 := by omega
    refine EV.succ ?_
    simp only [mosaicref01_Words.l0]
    refine EV.neg (by omega) ?_
    exact words_l1 s 48 16 (by omega) (by omega)
  | m + 1, t, h => by
    have hl := sched_len (bytesOf s) t
    have hlt : ((sched (bytesOf s) t).take t).length = t := by rw [List.length_take, hl]; omega
    refine EV.succ ?_
    simp only [mosaicref01_Words.l0]
    rw [show wrap64 (4 * (t : Int)) = ((4 * t : Nat) : Int) from by rw [w64 _ (by omega) (by omega)]; omega, show wrap64 (((4 * t : Nat) : Int) + 1) = ((4 * t + 1 : Nat) : Int) from by rw [w64 _ (by omega) (by omega)]; omega,
      show wrap64 (((4 * t : Nat) : Int) + 2) = ((4 * t + 2 : Nat) : Int) from by rw [w64 _ (by omega) (by omega)]; omega, show wrap64 (((4 * t : Nat) : Int) + 3) = ((4 * t + 3 : Nat) : Int) from by rw [w64 _ (by omega) (by omega)]; omega, w64 ((t : Int) + 1) (by omega) (by omega), hlt]
    refine EV.pos (by omega) (EV.pos (by omega) (EV.pos (by omega) (EV.pos (by omega) (EV.pos (by omega) (EV.pos (by omega) (EV.pos (by omega) (EV.pos (by omega) (EV.pos (by omega) (EV.pos (by omega) ?_)))))))))
    have ih := words_l0 s hs m (t + 1) (by omega)
    have e : (sched (bytesOf s) (t + 1)).take (t + 1) = (sched (bytesOf s) t).take t ++ [schedAt (bytesOf s) (sched (bytesOf s) t) t] := take_set _ _ _ (by rw [hl]; omega)
    rw [e] at ih
    refine EV.of_eq ?_ ih
    intro k
    have hw := Wd_ref s t (by omega) (by omega)
    unfold wsum at hw
    unfold schedAt
    rw [if_pos (by omega), hw]
    rfl
theorem words_ev (s : ByteArray) (hs : s.size = 64) : EV (fun k => mosaicref01_Words.f k s) (sched (bytesOf s) 64) := words_l0 s hs 16 0 (by omega)
theorem add8 (s0 s1 s2 s3 s4 s5 s6 s7 a b c d e f g h : Int) : addN [s0, s1, s2, s3, s4, s5, s6, s7] [a, b, c, d, e, f, g, h] 8 =
    [(a + s0) % 4294967296, (b + s1) % 4294967296, (c + s2) % 4294967296, (d + s3) % 4294967296, (e + s4) % 4294967296, (f + s5) % 4294967296, (g + s6) % 4294967296, (h + s7) % 4294967296] := rfl
theorem mix_l0 (s W : List Int) (h8 : s.length = 8) (hW : W.length = 64) : ∀ (m i : Nat) (a b c d e f g h : Int), i + m = 64 → mixN W K64 s i = [a, b, c, d, e, f, g, h] →
    EV (fun k => mosaicref01_Mix.l0 k s W K64 a b c d e f g h (i : Int)) (addN s (mixN W K64 s 64) 8)
  | 0, i, a, b, c, d, e, f, g, h, hm, hs => by
    obtain rfl : i = 64 := by omega
    refine EV.succ ?_
    simp only [mosaicref01_Mix.l0]
    refine EV.neg (by omega) (EV.pos (by omega) (EV.pos (by omega) (EV.pos (by omega) (EV.pos (by omega) (EV.pos (by omega) (EV.pos (by omega) (EV.pos (by omega) (EV.pos (by omega) ((EV.const _).to ?_)))))))))
    rw [hs]
    obtain ⟨s0, s1, s2, s3, s4, s5, s6, s7, rfl⟩ := list8 s h8
    rw [add8]
    have q0 : rd [s0, s1, s2, s3, s4, s5, s6, s7] 0 = s0 := rfl
    have q1 : rd [s0, s1, s2, s3, s4, s5, s6, s7] 1 = s1 := rfl
    have q2 : rd [s0, s1, s2, s3, s4, s5, s6, s7] 2 = s2 := rfl
    have q3 : rd [s0, s1, s2, s3, s4, s5, s6, s7] 3 = s3 := rfl
    have q4 : rd [s0, s1, s2, s3, s4, s5, s6, s7] 4 = s4 := rfl
    have q5 : rd [s0, s1, s2, s3, s4, s5, s6, s7] 5 = s5 := rfl
    have q6 : rd [s0, s1, s2, s3, s4, s5, s6, s7] 6 = s6 := rfl
    have q7 : rd [s0, s1, s2, s3, s4, s5, s6, s7] 7 = s7 := rfl
    rw [q0, q1, q2, q3, q4, q5, q6, q7, Int.add_comm s0 a, Int.add_comm s1 b, Int.add_comm s2 c, Int.add_comm s3 d, Int.add_comm s4 e, Int.add_comm s5 f, Int.add_comm s6 g, Int.add_comm s7 h]
  | m + 1, i, a, b, c, d, e, f, g, h, hm, hs => by
    refine EV.succ ?_
    simp only [mosaicref01_Mix.l0]
    have r6 := ref_rotr e 6 (by decide) (by decide)
    have r11 := ref_rotr e 11 (by decide) (by decide)
    have r25 := ref_rotr e 25 (by decide) (by decide)
    have r2 := ref_rotr a 2 (by decide) (by decide)
    have r13 := ref_rotr a 13 (by decide) (by decide)
    have r22 := ref_rotr a 22 (by decide) (by decide)
    simp only [Int.cast_ofNat_Int] at r6 r11 r25 r2 r13 r22
    rw [r6, r11, r25, r2, r13, r22, w64 ((i : Int) + 1) (by omega) (by omega)]
    simp only [Option.bind_some]
    refine EV.pos (by omega) (EV.pos (by omega) (EV.pos (by rw [K64_len]; omega) (EV.pos (by omega) ?_)))
    refine mix_l0 s W h8 hW m (i + 1) _ a b c _ e f g (by omega) ?_
    rw [mixN, hs]
    unfold mixStep t1Of chOf majOf
    have q0 : rd [a, b, c, d, e, f, g, h] ((0 : Nat) : Int) = a := rfl
    have q1 : rd [a, b, c, d, e, f, g, h] ((1 : Nat) : Int) = b := rfl
    have q2 : rd [a, b, c, d, e, f, g, h] ((2 : Nat) : Int) = c := rfl
    have q3 : rd [a, b, c, d, e, f, g, h] ((3 : Nat) : Int) = d := rfl
    have q4 : rd [a, b, c, d, e, f, g, h] ((4 : Nat) : Int) = e := rfl
    have q5 : rd [a, b, c, d, e, f, g, h] ((5 : Nat) : Int) = f := rfl
    have q6 : rd [a, b, c, d, e, f, g, h] ((6 : Nat) : Int) = g := rfl
    have q7 : rd [a, b, c, d, e, f, g, h] ((7 : Nat) : Int) = h := rfl
    have hmax : IntKind.u32.max = 4294967295 := rfl
    rw [q0, q1, q2, q3, q4, q5, q6, q7, hmax]
    generalize Go.bits BinOp.xor IntKind.u32 (Go.bits BinOp.xor IntKind.u32 (R 6 e) (R 11 e)) (R 25 e) = A
    generalize Go.bits BinOp.xor IntKind.u32 (Go.bits BinOp.xor IntKind.u32 (R 2 a) (R 13 a)) (R 22 a) = B
    generalize Go.bits BinOp.xor IntKind.u32 (Go.bits BinOp.and IntKind.u32 e f) (Go.bits BinOp.and IntKind.u32 (Go.bits BinOp.xor IntKind.u32 4294967295 e) g) = C
    generalize Go.bits BinOp.xor IntKind.u32 (Go.bits BinOp.xor IntKind.u32 (Go.bits BinOp.and IntKind.u32 a b) (Go.bits BinOp.and IntKind.u32 a c)) (Go.bits BinOp.and IntKind.u32 b c) = D
    generalize rd W (i : Int) = x
    generalize rd K64 (i : Int) = y
    simp only [List.cons.injEq, and_true, true_and]
    constructor <;> omega
theorem mix_ev (s : List Int) (blk : ByteArray) (h8 : s.length = 8) (hb : blk.size = 64) : EV (fun k => mosaicref01_Mix.f k s blk) (mixL s (bytesOf blk)) := by
  unfold mosaicref01_Mix.f
  refine EV.bind (words_ev blk hb) ?_
  show EV (fun k => (some K64).bind fun t237 => _) _
  simp only [Option.bind_some]
  refine EV.pos (by omega) (EV.pos (by omega) (EV.pos (by omega) (EV.pos (by omega) (EV.pos (by omega) (EV.pos (by omega) (EV.pos (by omega) (EV.pos (by omega) ?_)))))))
  refine mix_l0 s (sched (bytesOf blk) 64) h8 (sched_len _ _) 64 0 _ _ _ _ _ _ _ _ (by omega) ?_
  obtain ⟨s0, s1, s2, s3, s4, s5, s6, s7, rfl⟩ := list8 s h8
  rfl
theorem out_l1 (st : List Int) (h8 : st.length = 8) : ∀ (m j : Nat), j + m = 8 → EV (fun k => mosaicref01_Sum.l1 k st (outN st j) (j : Int)) (strOfNums (outN st 8))
  | 0, j, h => by
    obtain rfl : j = 8 := by omega
    refine EV.succ ?_
    simp only [mosaicref01_Sum.l1]
    exact EV.neg (by omega) (EV.const _)
  | m + 1, j, h => by
    refine EV.succ ?_
    simp only [mosaicref01_Sum.l1]
    refine EV.pos (by omega) (EV.pos (by omega) ?_)
    simp only [Option.bind_some]
    rw [w64 ((j : Int) + 1) (by omega) (by omega)]
    refine EV.pos (by rw [outN_len]; simp; omega) ?_
    exact out_l1 st h8 m (j + 1) (by omega)
theorem bytesOf_extract (s : ByteArray) (a b : Nat) : bytesOf (s.extract a b) = ((bytesOf s).take b).drop a := by
  unfold bytesOf
  rw [← List.map_take, ← List.map_drop]
  congr 1
  rw [ByteArray.data_extract, Array.toList_extract, List.extract_eq_take_drop, List.drop_take]
theorem bytesOf_append (s t : ByteArray) : bytesOf (s ++ t) = bytesOf s ++ bytesOf t := by
  unfold bytesOf
  rw [ByteArray.data_append, Array.toList_append, List.map_append]
theorem sum_l0 (x : ByteArray) (hx : x.size ≤ 100000) : ∀ (m i : Nat) (st : List Int), x.size = 64 * (i + m) → st.length = 8 →
    EV (fun k => mosaicref01_Sum.l0 k x st ((64 * i : Nat) : Int)) (strOfNums (outN (absN m st ((bytesOf x).drop (64 * i))) 8))
  | 0, i, st, hs, h8 => by
    refine EV.succ ?_
    simp only [mosaicref01_Sum.l0]
    exact EV.neg (by omega) (out_l1 st h8 8 0 (by omega))
  | m + 1, i, st, hs, h8 => by
    refine EV.succ ?_
    simp only [mosaicref01_Sum.l0]
    have hw : wrap64 (((64 * i : Nat) : Int) + 64) = ((64 * (i + 1) : Nat) : Int) := by rw [w64 _ (by omega) (by omega)]; omega
    rw [hw]
    refine EV.pos (by omega) (EV.pos (by omega) (EV.pos (by omega) (EV.pos (by omega) ?_)))
    simp only [Int.toNat_natCast]
    refine EV.bind (mix_ev st _ h8 (by rw [ByteArray.size_extract]; omega)) ?_
    have ih := sum_l0 x hx m (i + 1) (mixL st (bytesOf (x.extract (64 * i) (64 * (i + 1))))) (by omega) (mixL_len _ _ h8)
    refine ih.to ?_
    have e1 : bytesOf (x.extract (64 * i) (64 * (i + 1))) = ((bytesOf x).drop (64 * i)).take 64 := by
      rw [bytesOf_extract, List.drop_take, show 64 * (i + 1) - 64 * i = 64 from by omega]
    have e2 : ((bytesOf x).drop (64 * i)).drop 64 = (bytesOf x).drop (64 * (i + 1)) := by rw [List.drop_drop]; congr 1
    rw [e1, absN, e2]
theorem pad_l0 (n : Nat) (hn : n ≤ 65536) : ∀ (m z : Nat), z + m = zeroN n → EV (fun k => mosaicref01_Pad.l0 k (n : Int) ([128] ++ List.replicate z 0)) (strOfNums (padL n)) := by
  have e0 : wrap64 (8 * (n : Int)) = ((8 * n : Nat) : Int) := by rw [w64 _ (by omega) (by omega)]; omega
  have cond : ∀ z : Nat, z ≤ 64 → Int.tmod (wrap64 (wrap64 ((n : Int) + ((([128] ++ List.replicate z 0 : List Int).length : Nat) : Int)) + 8)) 64 = (((n + 9 + z) % 64 : Nat) : Int) := by
    intro z hz
    have hl : ([128] ++ List.replicate z 0 : List Int).length = z + 1 := by simp
    rw [hl, w64 ((n : Int) + _) (by omega) (by omega), w64 _ (by omega) (by omega), show (n : Int) + ((z + 1 : Nat) : Int) + 8 = ((n + 9 + z : Nat) : Int) from by omega]
    exact tmod_nat _ 64
  have hz64 : zeroN n < 64 := by unfold zeroN; omega
  intro m
  induction m with
  | zero =>
    intro z hz
    refine EV.succ ?_
    simp only [mosaicref01_Pad.l0]
    rw [cond z (by omega), e0]
    refine EV.pos ?_ ?_
    · have : (n + 9 + z) % 64 = 0 := by rw [show z = zeroN n from by omega]; unfold zeroN; omega
      rw [this]; rfl
    simp only [Option.bind_some]
    refine EV.pos (by simp; omega) ((EV.const _).to ?_)
    have d : ∀ c : Nat, Int.tdiv ((8 * n : Nat) : Int) (c : Int) = ((8 * n / c : Nat) : Int) := by
      intro c
      rw [Int.tdiv_eq_ediv_of_nonneg (by omega)]
      rfl
    have d24 := d 16777216
    have d16 := d 65536
    have d8 := d 256
    have t1 := tmod_nat (8 * n / 65536) 256
    have t2 := tmod_nat (8 * n / 256) 256
    have t3 := tmod_nat (8 * n) 256
    simp only [Int.cast_ofNat_Int] at d24 d16 d8 t1 t2 t3
    rw [d24, d16, d8, w64 ((8 * n / 16777216 : Nat) : Int) (by omega) (by omega), w64 ((8 * n / 65536 : Nat) : Int) (by omega) (by omega), w64 ((8 * n / 256 : Nat) : Int) (by omega) (by omega), t1, t2, t3]
    unfold padL
    rw [show z = zeroN n from by omega]
    congr 2
    simp only [List.cons.injEq, and_true, true_and]
    refine ⟨?_, ?_, ?_, ?_⟩ <;> omega
  | succ m ih =>
    intro z hz
    refine EV.succ ?_
    simp only [mosaicref01_Pad.l0]
    rw [cond z (by omega)]
    refine EV.neg ?_ (EV.pos (by simp; omega) ?_)
    · have : (n + 9 + z) % 64 ≠ 0 := by unfold zeroN at hz hz64; omega
      omega
    · refine EV.of_eq ?_ (ih (z + 1) (by omega))
      intro k
      congr 1
      rw [List.replicate_succ', List.append_assoc]
theorem pad_ev (n : Nat) (hn : n ≤ 65536) : EV (fun k => mosaicref01_Pad.f k (n : Int)) (strOfNums (padL n)) := by
  unfold mosaicref01_Pad.f
  refine EV.neg (by omega) ?_
  rw [show decide ((n : Int) > 65536) = false from decide_eq_false (by omega)]
  refine EV.succ ?_
  simp only [mosaicref01_Pad.j0]
  exact EV.neg (by decide) (pad_l0 n hn (zeroN n) 0 (by omega))
theorem wr_abs : ∀ (k : Nat) (st xs : List Int) (s : ByteArray) (st1 xs1 : List Int), xs.length < 64 → wrN k st xs s = some (st1, xs1) → ∀ (Q : List Int) (m1 : Nat), (xs1 ++ Q).length = 64 * m1 →
    ∃ m, (xs ++ bytesOf s ++ Q).length = 64 * m ∧ absN m st (xs ++ bytesOf s ++ Q) = absN m1 st1 (xs1 ++ Q)
  | 0, _, _, _, _, _, _, h, _, _, _ => by simp [wrN] at h
  | k + 1, st, xs, s, st1, xs1, hx, h, Q, m1, hQ => by
    unfold wrN at h
    by_cases hlt : s.size < 64 - xs.length
    · rw [if_pos hlt] at h
      simp only [Option.some.injEq, Prod.mk.injEq] at h
      obtain ⟨rfl, rfl⟩ := h
      exact ⟨m1, hQ, rfl⟩
    · rw [if_neg hlt] at h
      obtain ⟨m, hm, he⟩ := wr_abs k _ [] _ st1 xs1 (by simp) h Q m1 hQ
      have hb := bytesOf_length s
      have e1 : bytesOf (s.extract 0 (64 - xs.length)) = (bytesOf s).take (64 - xs.length) := by rw [bytesOf_extract, List.drop_zero]
      have e2 : bytesOf (s.extract (64 - xs.length) s.size) = (bytesOf s).drop (64 - xs.length) := by rw [bytesOf_extract, ← hb, List.take_length]
      have ht : (xs ++ bytesOf s ++ Q).take 64 = xs ++ (bytesOf s).take (64 - xs.length) := by
        rw [List.append_assoc, List.take_append, List.take_of_length_le (by omega), List.take_append_of_le_length (by omega)]
      have hd : (xs ++ bytesOf s ++ Q).drop 64 = (bytesOf s).drop (64 - xs.length) ++ Q := by
        rw [List.append_assoc, List.drop_append, List.drop_eq_nil_of_le (by omega), List.nil_append, List.drop_append_of_le_length (by omega)]
      rw [e1, e2, List.nil_append] at he
      rw [e2, List.nil_append, List.length_append, List.length_drop] at hm
      refine ⟨m + 1, ?_, ?_⟩
      · simp only [List.length_append] at hm ⊢
        omega
      · rw [absN, ht, hd, he]
theorem sum_ref (s : ByteArray) : EV (fun k => mosaicref01_Sum.f k s) (SHA s) := by
  unfold mosaicref01_Sum.f
  by_cases hbig : 65536 < s.size
  · refine EV.pos (by omega) ((EV.const _).to ?_)
    unfold SHA
    rw [if_pos hbig]
  · refine EV.neg (by omega) (EV.bind (pad_ev s.size (by omega)) ?_)
    have hps : (strOfNums (padL s.size)).size = 9 + zeroN s.size := by rw [strOfNums_size, padL_len]
    have hz : zeroN s.size < 64 := by unfold zeroN; omega
    refine EV.pos (by omega) ?_
    show EV (fun k => (some S8).bind fun t268 => _) _
    simp only [Option.bind_some]
    obtain ⟨⟨st1, xs1⟩, hw⟩ := wrN_some 1100 S8 [] s (by simp) (by simp; omega)
    obtain ⟨h8, hx1, hmod⟩ := wrN_len 1100 S8 [] s st1 xs1 rfl (by simp) hw
    have hm : (xs1 ++ bytesOf (strOfNums (padL s.size))).length = 64 * ((xs1 ++ bytesOf (strOfNums (padL s.size))).length / 64) := by
      have := padL_mod s.size
      rw [List.length_append, bytesOf_strOfNums_length]
      simp only [List.length_nil, Nat.zero_add] at hmod
      omega
    obtain ⟨m, hlen, he⟩ := wr_abs 1100 S8 [] s st1 xs1 (by simp) hw _ _ hm
    rw [List.nil_append] at hlen he
    have hsz : (s ++ strOfNums (padL s.size)).size = 64 * (0 + m) := by
      rw [← bytesOf_length, bytesOf_append, hlen]
      omega
    have := sum_l0 (s ++ strOfNums (padL s.size)) (by rw [ByteArray.size_append]; omega) m 0 S8 hsz rfl
    refine this.to ?_
    rw [Nat.mul_zero, List.drop_zero, bytesOf_append, he]
    unfold SHA
    rw [if_neg hbig, hw]
    rfl
end Go.Proofs.Ytaomblcecjaedaa.P
