/- What the claim on this statement wants of the text YtaomblcecjaedaaESha. Not trusted: Lean checks it. -/
import Derived.Test.YtaomblcecjaedaaK4EShaF
namespace Go.Proofs.Ytaomblcecjaedaa.P
open Go.RowKit Go.Proofs.YtaomblcecjaedaaW.PrintWords Go.Proofs.YtaomblcecjaedaaW.PrintLast Go.Proofs.YtaomblcecjaedaaW.PrintMore
set_option linter.unusedVariables false
set_option linter.unusedSimpArgs false
theorem wrN_some : ∀ (k : Nat) (st xs : List Int) (s : ByteArray), xs.length < 64 → xs.length + s.size < 64 * k → ∃ r, wrN k st xs s = some r
  | 0, _, _, _, _, h => by omega
  | k + 1, st, xs, s, h, hs => by
    unfold wrN
    by_cases hlt : s.size < 64 - xs.length
    · rw [if_pos hlt]; exact ⟨_, rfl⟩
    · rw [if_neg hlt]
      refine wrN_some k _ _ _ (by simp) ?_
      rw [ByteArray.size_extract]
      simp only [List.length_nil]
      omega
theorem wrN_len : ∀ (k : Nat) (st xs : List Int) (s : ByteArray) (st1 xs1 : List Int), st.length = 8 → xs.length < 64 → wrN k st xs s = some (st1, xs1) → st1.length = 8 ∧ xs1.length < 64 ∧ xs1.length % 64 = (xs.length + s.size) % 64
  | 0, _, _, _, _, _, _, _, h => by simp [wrN] at h
  | k + 1, st, xs, s, st1, xs1, h8, hx, h => by
    unfold wrN at h
    by_cases hlt : s.size < 64 - xs.length
    · rw [if_pos hlt] at h
      simp only [Option.some.injEq, Prod.mk.injEq] at h
      obtain ⟨rfl, rfl⟩ := h
      rw [List.length_append, bytesOf_length]
      exact ⟨h8, by omega, rfl⟩
    · rw [if_neg hlt] at h
      obtain ⟨h1, h2, h3⟩ := wrN_len k _ _ _ st1 xs1 (mixL_len _ _ h8) (by simp) h
      refine ⟨h1, h2, ?_⟩
      rw [h3, ByteArray.size_extract]
      simp only [List.length_nil]
      omega
/-- How many zeros the padding has. -/
def zeroN (n : Nat) : Nat := (119 - n % 64) % 64
/-- The padding of a text of n bytes. -/
def padL (n : Nat) : List Int := ([128] ++ List.replicate (zeroN n) 0) ++ [0, 0, 0, 0, ((8 * n / 16777216 % 256 : Nat) : Int), ((8 * n / 65536 % 256 : Nat) : Int), ((8 * n / 256 % 256 : Nat) : Int), ((8 * n % 256 : Nat) : Int)]
theorem padL_len (n : Nat) : (padL n).length = 9 + zeroN n := by simp [padL]; omega
theorem padL_mod (n : Nat) : (n + (padL n).length) % 64 = 0 := by rw [padL_len]; unfold zeroN; omega
theorem tmod_nat (n : Nat) (m : Nat) : Int.tmod (n : Int) (m : Int) = ((n % m : Nat) : Int) := by
  rw [Int.tmod_eq_emod_of_nonneg (by omega)]; rfl
theorem shr_nat (x j : Nat) (h : j ≤ 64) : shr .u64 (x : Int) (j : Int) = ((x / 2 ^ j : Nat) : Int) := by
  unfold shr
  rw [Nat.min_eq_left (by simpa [IntKind.bits] using h)]
  simp
theorem sha_pad (n : Nat) (h : n ≤ 65536) : sha_Pad.f 100 (n : Int) = some (strOfNums (padL n)) := by
  have e0 : wrap64 (119 - Int.tmod (n : Int) 64) = ((119 - n % 64 : Nat) : Int) := by
    have := tmod_nat n 64
    rw [show ((64 : Nat) : Int) = 64 from rfl] at this
    rw [this]
    unfold wrap64
    omega
  have e1 : Int.tmod (wrap64 (119 - Int.tmod (n : Int) 64)) 64 = (zeroN n : Int) := by
    rw [e0]
    exact tmod_nat _ 64
  have hz : zeroN n < 64 := by unfold zeroN; omega
  have e2 : IntKind.u64.wrap (IntKind.u64.wrap (n : Int) * 8) = ((8 * n : Nat) : Int) := by simp [IntKind.wrap, IntKind.bits, IntKind.signed]; omega
  unfold sha_Pad.f
  rw [if_neg (by omega), show decide ((n : Int) > 65536) = false from by simp; omega]
  simp only [sha_Pad.j0, e1, Option.bind_some]
  rw [if_neg (by decide), if_pos (by omega), Int.toNat_natCast, if_pos (by simp; omega)]
  generalize hx : ([128] ++ List.replicate (zeroN n) 0 : List Int) = x4
  have hl : x4.length < 100 := by rw [← hx]; simp; omega
  have d : ∀ j : Nat, j ≤ 64 → shr .u64 (IntKind.u64.wrap (IntKind.u64.wrap (n : Int) * 8)) (j : Int) % 256 = ((8 * n / 2 ^ j % 256 : Nat) : Int) := by
    intro j hj
    rw [e2, shr_nat _ _ hj]
    rfl
  have d56 := d 56 (by decide)
  have d48 := d 48 (by decide)
  have d40 := d 40 (by decide)
  have d32 := d 32 (by decide)
  have d24 := d 24 (by decide)
  have d16 := d 16 (by decide)
  have d8 := d 8 (by decide)
  have d0 := d 0 (by decide)
  rw [show 8 * n / 2 ^ 56 % 256 = 0 from by omega] at d56
  rw [show 8 * n / 2 ^ 48 % 256 = 0 from by omega] at d48
  rw [show 8 * n / 2 ^ 40 % 256 = 0 from by omega] at d40
  rw [show 8 * n / 2 ^ 32 % 256 = 0 from by omega] at d32
  have step : ∀ (k : Nat) (x : List Int) (j j' : Int), 0 ≤ j → wrap64 (j - 8) = j' → x.length < 120 → sha_Pad.l0 (k + 1) (n : Int) x j = sha_Pad.l0 k (n : Int) (x ++ [shr .u64 (IntKind.u64.wrap (IntKind.u64.wrap (n : Int) * 8)) j % 256]) j' := by
    intro k x j j' h1 h2 h3
    rw [sha_Pad.l0, if_pos h1, if_pos h1, if_pos (by omega), h2]
  rw [step 98 _ 56 48 (by decide) (by unfold wrap64; omega) (by omega), step 97 _ 48 40 (by decide) (by unfold wrap64; omega) (by simp; omega), step 96 _ 40 32 (by decide) (by unfold wrap64; omega) (by simp; omega), step 95 _ 32 24 (by decide) (by unfold wrap64; omega) (by simp; omega),
    step 94 _ 24 16 (by decide) (by unfold wrap64; omega) (by simp; omega), step 93 _ 16 8 (by decide) (by unfold wrap64; omega) (by simp; omega), step 92 _ 8 0 (by decide) (by unfold wrap64; omega) (by simp; omega), step 91 _ 0 (-8) (by decide) (by unfold wrap64; omega) (by simp; omega)]
  have d56' : shr .u64 (IntKind.u64.wrap (IntKind.u64.wrap (n : Int) * 8)) 56 % 256 = 0 := d56
  have d48' : shr .u64 (IntKind.u64.wrap (IntKind.u64.wrap (n : Int) * 8)) 48 % 256 = 0 := d48
  have d40' : shr .u64 (IntKind.u64.wrap (IntKind.u64.wrap (n : Int) * 8)) 40 % 256 = 0 := d40
  have d32' : shr .u64 (IntKind.u64.wrap (IntKind.u64.wrap (n : Int) * 8)) 32 % 256 = 0 := d32
  have d24' : shr .u64 (IntKind.u64.wrap (IntKind.u64.wrap (n : Int) * 8)) 24 % 256 = _ := d24
  have d16' : shr .u64 (IntKind.u64.wrap (IntKind.u64.wrap (n : Int) * 8)) 16 % 256 = _ := d16
  have d8' : shr .u64 (IntKind.u64.wrap (IntKind.u64.wrap (n : Int) * 8)) 8 % 256 = _ := d8
  have d0' : shr .u64 (IntKind.u64.wrap (IntKind.u64.wrap (n : Int) * 8)) 0 % 256 = _ := d0
  rw [d56', d48', d40', d32', d24', d16', d8', d0']
  rw [sha_Pad.l0, if_neg (by decide)]
  simp [padL, hx]
theorem bytesOf_strOfNums_length (xs : List Int) : (bytesOf (strOfNums xs)).length = xs.length := by rw [bytesOf_length, strOfNums_size]
def SHA (s : ByteArray) : ByteArray := if 65536 < s.size then ⟨#[]⟩ else
  strOfNums (outN (absN ((((wrN 1100 S8 [] s).getD ([], [])).2 ++ bytesOf (strOfNums (padL s.size))).length / 64) ((wrN 1100 S8 [] s).getD ([], [])).1 (((wrN 1100 S8 [] s).getD ([], [])).2 ++ bytesOf (strOfNums (padL s.size)))) 8)
def sha_Sum.f (a0 : ByteArray) : Option (ByteArray) := some (SHA a0)
set_option maxHeartbeats 1000000 in
set_option maxRecDepth 100000 in
theorem write_big (w : World) (g : Nat) (st : List Int) (v : Value) (s0 : ByteArray) (h : w.heap[g]? = some (.cells (Hc st v 0) 84 (0, 0))) (h8 : st.length = 8) (hs : 65536 < s0.size) :
    Calls Try.prog 49 #[.pointer (some ⟨g, 0, none⟩), .string s0] w fun e W' => (∃ n, n ≠ 0 ∧ e = .returned (.int .i64 n)) ∧ Below w.heap.size w W' := by
  have c9 : w.cell? ⟨g, 9, none⟩ = some (.int .i64 0) := by
    rw [cell_of_row w g 9 _ 84 _ h]
    simp [Hc, U, Array.getElem?_append, h8]
  have d1 : decide ((65536 : Int) < s0.size) = true := by simp; omega
  have d2 : (65536 : Int) < s0.size := by omega
  go_enter Try.func49, Try.ntmps49
  go_wp2_with fail
  refine wp_scope_ghost3 0 0 (fun _ _ _ => False) rfl ?pass ?first
  case pass => exact fun _ _ _ h => h.elim
  case first =>
    intro _
    go_wp2_with fail
    simp only [Exit.jump]
    go_ret
    exact ⟨⟨2, by decide, rfl⟩, Below.refl _ _⟩
theorem HW.new {w w1 : World} {g : Nat} (hge : w.heap.size ≤ g) (hg : w1.heap[g]? = some (.cells (Hc S8 (.slice none 0 0) 0) 84 (0, 0))) (hb : Below w.heap.size w w1) : HW w w1 g S8 0 (.slice none 0 0) [] :=
  ⟨hg, rfl, own_nil _ _ _ _, hb, hge⟩
set_option maxHeartbeats 1000000 in
set_option maxRecDepth 100000 in
theorem sum_calls (s0 : ByteArray) (w : World) : Calls Try.prog 35 #[.string s0] w fun e w' => e = .returned (.string (SHA s0)) ∧ Below w.heap.size w w' := by
  by_cases hbig : 65536 < s0.size
  · have HBIG := Aside0.mk hbig
    have hS : SHA s0 = ⟨#[]⟩ := by unfold SHA; rw [if_pos hbig]
    rw [hS]
    clear hbig hS
    go_enter Try.func35, Try.ntmps35
    go_wp2_with fail
    refine (new_calls _).mono ?_
    rintro e w1 ⟨g, rfl, hge, hg, hb⟩
    have HG := Aside0.mk hg
    have HB := Aside0.mk hb
    clear hg hb
    go_wp2_with fail
    refine (write_big w1 g S8 (.slice none 0 0) s0 HG.out rfl HBIG.out).mono ?_
    rintro e w2 ⟨⟨n, hn, rfl⟩, hb2⟩
    have HB2 := Aside0.mk (below_step HB.out hb2)
    have hn2 : (n == 0) = false := by simpa using hn
    clear hb2
    go_wp2_with fail
    go_ret
    exact ⟨rfl, HB2.out⟩
  · obtain ⟨⟨st1, xs1⟩, hw⟩ := wrN_some 1100 S8 [] s0 (by simp) (by simp; omega)
    obtain ⟨h8, hx1, hmod⟩ := wrN_len 1100 S8 [] s0 st1 xs1 rfl (by simp) hw
    have hS : SHA s0 = strOfNums (outN (absN ((xs1 ++ bytesOf (strOfNums (padL s0.size))).length / 64) st1 (xs1 ++ bytesOf (strOfNums (padL s0.size)))) 8) := by
      unfold SHA
      rw [if_neg hbig, hw]
      rfl
    have hm : (xs1 ++ bytesOf (strOfNums (padL s0.size))).length = 64 * ((xs1 ++ bytesOf (strOfNums (padL s0.size))).length / 64) := by
      have := padL_mod s0.size
      rw [List.length_append, bytesOf_strOfNums_length]
      simp only [List.length_nil, Nat.zero_add] at hmod
      omega
    have hp := sha_pad s0.size (by omega)
    have hps : (strOfNums (padL s0.size)).size ≤ 1000 := by rw [strOfNums_size, padL_len]; unfold zeroN; omega
    obtain ⟨pad, hpad⟩ : ∃ z, z = strOfNums (padL s0.size) := ⟨_, rfl⟩
    rw [← hpad] at hS hm hp hps
    obtain ⟨m, hmm⟩ : ∃ z, z = (xs1 ++ bytesOf pad).length / 64 := ⟨_, rfl⟩
    rw [← hmm] at hS hm
    rw [hS]
    have HSZ : Aside0 (s0.size ≤ 65536) := ⟨by omega⟩
    have HP := Aside0.mk hp
    have HPS := Aside0.mk hps
    have HM := Aside0.mk hm
    have HWR := Aside0.mk hw
    clear hS hm hp hps hw hmm hpad h8 hx1 hmod hbig
    go_enter Try.func35, Try.ntmps35
    go_wp2_with fail
    refine (new_calls _).mono ?_
    rintro e w1 ⟨g, rfl, hge, hg, hb⟩
    have HH := Aside0.mk (HW.new hge hg hb)
    clear hg hb hge
    go_wp2_with fail
    refine (write_calls w w1 g S8 [] 0 (.slice none 0 0) s0 1100 st1 xs1 HH.out (by simp) (by omega) (by have := HSZ.out; omega) HWR.out).mono ?_
    rintro e w2 ⟨rfl, v', h2, hx2⟩
    rw [Int.zero_add] at h2
    have H2 := Aside0.mk h2
    have HX2 := Aside0.mk hx2
    clear h2 hx2
    go_wp2_with fail
    refine (hashsum_calls w w2 g st1 xs1 (s0.size : Int) v' H2.out HX2.out 100 pad HP.out HPS.out m HM.out).mono ?_
    rintro e w3 ⟨rfl, hb3⟩
    have HB3 := Aside0.mk hb3
    clear hb3
    go_wp2_with fail
    go_ret
    exact ⟨rfl, HB3.out⟩
theorem sha_Sum.calls (a0 : ByteArray) (r : ByteArray) (w : World) (h : sha_Sum.f a0 = some r) :
    Calls Try.prog 35 #[.string a0] w fun e w' => e = .returned (.string r) ∧ Below w.heap.size w w' := by
  have : r = SHA a0 := by simpa [sha_Sum.f] using h.symm
  subst this
  exact sum_calls a0 w
end Go.Proofs.Ytaomblcecjaedaa.P
