/- What the claim on this statement wants of the text YtgcgnnblgimegaaETrue. Not trusted: Lean checks it. -/
import Derived.Test.YtgcgnnblgimegaaK1ETrueEv
namespace Go.Proofs.Ytgcgnnblgimegaa.P
open Go.RowKit Go.Proofs.YtgcgnnblgimegaaW.PrintWords Go.Proofs.YtgcgnnblgimegaaW.PrintLast Go.Proofs.YtgcgnnblgimegaaW.PrintMore
open Go.Proofs.Ytgcgnnblgimegaa.Red
set_option linter.unusedVariables false
set_option linter.unusedSimpArgs false
theorem step_all {P : Sd → Prop} (hp : ∀ s t, P s → P t → P (s.plus t)) (i : Nat) (l o : List Sd) (hl : ∀ s ∈ l, P s) (ho : ∀ s ∈ o, P s) : (∀ s ∈ (Red.step i l o).1, P s) ∧ ∀ s ∈ (Red.step i l o).2, P s := by
  unfold Red.step
  cases hk : l.findIdx? (fun s => s.x.testBit i) with
  | none => exact ⟨hl, ho⟩
  | some k =>
    obtain ⟨hkl, _, _⟩ := List.findIdx?_eq_some_iff_getElem.1 hk
    have hg : l.getD k ⟨0, ByteArray.empty⟩ = l[k] := by simp [List.getD, hkl]
    have hP : P (l.getD k ⟨0, ByteArray.empty⟩) := by rw [hg]; exact hl _ (List.getElem_mem hkl)
    have hc : ∀ m : List Sd, (∀ s ∈ m, P s) → ∀ s ∈ clr i (l.getD k ⟨0, ByteArray.empty⟩) m, P s := fun m hm s hs => by
      obtain ⟨t, ht, ⟨_, rfl⟩ | ⟨_, rfl⟩⟩ := clr_mem hs
      · exact hp _ _ (hm t ht) hP
      · exact hm _ ht
    refine ⟨hc _ fun s hs => hl s (List.mem_of_mem_eraseIdx hs), fun s hs => ?_⟩
    rcases List.mem_append.1 hs with hs | hs
    · exact hc _ ho s hs
    · rw [List.mem_singleton.1 hs]; exact hP
theorem run_all {P : Sd → Prop} (hp : ∀ s t, P s → P t → P (s.plus t)) : ∀ (d i : Nat) (l o : List Sd), (∀ s ∈ l, P s) → (∀ s ∈ o, P s) → (∀ s ∈ (Red.run d i l o).1, P s) ∧ ∀ s ∈ (Red.run d i l o).2, P s
  | 0, _, _, _, hl, ho => ⟨hl, ho⟩
  | d + 1, i, l, o, hl, ho => by
    obtain ⟨h1, h2⟩ := step_all hp i l o hl ho
    exact run_all hp d (i + 1) _ _ h1 h2
theorem clr_x {i : Nat} {p p' : Sd} (hp : p.x = p'.x) : ∀ {m m' : List Sd}, m.map Sd.x = m'.map Sd.x → (clr i p m).map Sd.x = (clr i p' m').map Sd.x
  | [], [], _ => rfl
  | [], _ :: _, h => by simp at h
  | _ :: _, [], h => by simp at h
  | a :: m, b :: m', h => by
    simp only [List.map_cons, List.cons.injEq] at h
    simp only [clr, List.map_cons, List.cons.injEq]
    refine ⟨?_, clr_x hp h.2⟩
    rw [h.1]
    split
    · show a.x ^^^ p.x = b.x ^^^ p'.x
      rw [h.1, hp]
    · exact h.1
theorem find_x (i : Nat) : ∀ {m m' : List Sd}, m.map Sd.x = m'.map Sd.x → m.findIdx? (fun s => s.x.testBit i) = m'.findIdx? (fun s => s.x.testBit i)
  | [], [], _ => rfl
  | [], _ :: _, h => by simp at h
  | _ :: _, [], h => by simp at h
  | a :: m, b :: m', h => by
    simp only [List.map_cons, List.cons.injEq] at h
    rw [List.findIdx?_cons, List.findIdx?_cons, h.1, find_x i h.2]
theorem step_x {i : Nat} {l l' o o' : List Sd} (hl : l.map Sd.x = l'.map Sd.x) (ho : o.map Sd.x = o'.map Sd.x) :
    (Red.step i l o).1.map Sd.x = (Red.step i l' o').1.map Sd.x ∧ (Red.step i l o).2.map Sd.x = (Red.step i l' o').2.map Sd.x := by
  unfold Red.step
  rw [find_x i hl]
  cases hk : l'.findIdx? (fun s => s.x.testBit i) with
  | none => exact ⟨hl, ho⟩
  | some k =>
    have hd : (l.getD k ⟨0, ByteArray.empty⟩).x = (l'.getD k ⟨0, ByteArray.empty⟩).x := by
      have hm : l[k]?.map Sd.x = l'[k]?.map Sd.x := by rw [← List.getElem?_map, ← List.getElem?_map, hl]
      rw [List.getD_eq_getElem?_getD, List.getD_eq_getElem?_getD]
      cases h1 : l[k]? <;> cases h2 : l'[k]? <;> simp_all
    refine ⟨clr_x hd (by rw [List.eraseIdx_eq_take_drop_succ, List.eraseIdx_eq_take_drop_succ, List.map_append, List.map_append, List.map_take, List.map_take, List.map_drop, List.map_drop, hl]), ?_⟩
    dsimp only
    rw [List.map_append, List.map_append, clr_x hd ho]
    simp only [List.map_cons, List.map_nil, hd]
theorem run_x : ∀ (d i : Nat) {l l' o o' : List Sd}, l.map Sd.x = l'.map Sd.x → o.map Sd.x = o'.map Sd.x → (Red.run d i l o).1.map Sd.x = (Red.run d i l' o').1.map Sd.x ∧ (Red.run d i l o).2.map Sd.x = (Red.run d i l' o').2.map Sd.x
  | 0, _, _, _, _, _, hl, ho => ⟨hl, ho⟩
  | d + 1, i, _, _, _, _, hl, ho => by
    obtain ⟨h1, h2⟩ := step_x (i := i) hl ho
    exact run_x d (i + 1) h1 h2
def comb (bs : List ByteArray) (f : Nat → Bool) (j : Nat) : Nat → UInt8
  | 0 => 0
  | n + 1 => comb bs f j n ^^^ cond (f n) (byteAt (bs.getD n ByteArray.empty) j) 0
theorem comb_xor (bs : List ByteArray) (f g : Nat → Bool) (j : Nat) : ∀ n, comb bs (fun i => Bool.xor (f i) (g i)) j n = comb bs f j n ^^^ comb bs g j n
  | 0 => by simp [comb]
  | n + 1 => by
    have hx : ∀ a b c d : UInt8, a ^^^ b ^^^ (c ^^^ d) = a ^^^ c ^^^ (b ^^^ d) := fun a b c d => by
      rw [UInt8.xor_assoc, UInt8.xor_assoc, ← UInt8.xor_assoc b c d, UInt8.xor_comm b c, UInt8.xor_assoc c b d]
    simp only [comb]
    rw [comb_xor bs f g j n, hx]
    congr 1
    generalize f n = a
    generalize g n = b
    cases a <;> cases b <;> simp
theorem comb_none (bs : List ByteArray) (f : Nat → Bool) (j : Nat) : ∀ n, (∀ i, i < n → f i = false) → comb bs f j n = 0
  | 0, _ => rfl
  | n + 1, h => by
    simp only [comb]
    rw [comb_none bs f j n fun i hi => h i (by omega), h n (by omega)]
    simp
theorem comb_one (bs : List ByteArray) (f : Nat → Bool) (j a : Nat) : ∀ n, a < n → (∀ i, i < n → f i = (i == a)) → comb bs f j n = byteAt (bs.getD a ByteArray.empty) j
  | n + 1, ha, h => by
    simp only [comb]
    by_cases e : a = n
    · subst e
      rw [comb_none bs f j a fun i hi => by rw [h i (by omega)]; simp; omega, h a (by omega)]
      simp
    · rw [comb_one bs f j a n (by omega) fun i hi => h i (by omega), h n (by omega)]
      have : (n == a) = false := by simp; omega
      rw [this]
      simp
theorem comb_congr (bs : List ByteArray) {f g : Nat → Bool} (j : Nat) (h : ∀ i, f i = g i) (n : Nat) : comb bs f j n = comb bs g j n := by rw [show f = g from funext h]
/-- A side is true of the blocks. -/
def TrueOf (bs : List ByteArray) (n : Nat) (s : Sd) : Prop := s.b.size = size0 bs ∧ ∀ j, byteAt s.b j = comb bs (fun i => s.x.testBit i) j n
theorem TrueOf.plus {bs : List ByteArray} {n : Nat} (s t : Sd) (hs : TrueOf bs n s) (ht : TrueOf bs n t) : TrueOf bs n (s.plus t) :=
  ⟨xorB_size hs.1 ht.1, fun j => by
    show byteAt (xorB s.b t.b) j = _
    rw [xorB_at (hs.1.trans ht.1.symm), hs.2 j, ht.2 j, ← comb_xor]
    exact comb_congr bs j (fun i => by simp [Sd.plus, Nat.testBit_xor]) n⟩
theorem byteAt_zero (n j : Nat) : byteAt (zeroB n) j = 0 := by
  unfold byteAt zeroB
  by_cases hj : j < n
  · rw [List.getElem?_toArray, repeat_zero, List.getElem?_replicate, if_pos hj]; rfl
  · rw [List.getElem?_toArray, repeat_zero, List.getElem?_replicate, if_neg hj]; rfl
theorem sum_at (bs : List ByteArray) (sz n : Nat) (hb : ∀ b ∈ bs, b.size = sz) (hn : bs.length = n) (j : Nat) : ∀ (r : List Int) (s : ByteArray), (∀ i ∈ r, 0 ≤ i ∧ i < (n : Int)) → r.Nodup → s.size = sz →
    byteAt (sumL bs s r) j = byteAt s j ^^^ comb bs (fun i => r.any fun a => a.toNat == i) j n
  | [], s, _, _, _ => by
    rw [comb_none bs (fun i => ([] : List Int).any fun a => a.toNat == i) j n (fun i _ => rfl)]
    simp [sumL]
  | a :: r, s, hin, hnd, hs => by
    obtain ⟨hna, hnd⟩ := List.nodup_cons.1 hnd
    have hm := hin a (by simp)
    have hlt : a.toNat < bs.length := by omega
    have hra : rdOf ByteArray.empty bs a = bs[a.toNat] := by simp [rdOf, hlt]
    have hga : bs.getD a.toNat ByteArray.empty = bs[a.toNat] := by simp [List.getD_eq_getElem?_getD, hlt]
    have hsz : (rdOf ByteArray.empty bs a).size = sz := by rw [hra]; exact hb _ (List.getElem_mem _)
    have ih := sum_at bs sz n hb hn j r (xorB s (rdOf ByteArray.empty bs a)) (fun i hi => hin i (by simp [hi])) hnd (xorB_size hs hsz)
    have hc : comb bs (fun i => (a :: r).any fun a => a.toNat == i) j n = byteAt (rdOf ByteArray.empty bs a) j ^^^ comb bs (fun i => r.any fun a => a.toNat == i) j n := by
      have h0 : comb bs (fun i => i == a.toNat) j n = byteAt (rdOf ByteArray.empty bs a) j := by rw [comb_one bs (fun i => i == a.toNat) j a.toNat n (by omega) (fun _ _ => rfl), hga, hra]
      rw [← h0, ← comb_xor]
      refine comb_congr bs j (fun i => ?_) n
      rw [List.any_cons]
      by_cases e : i = a.toNat
      · have h1 : (r.any fun a => a.toNat == i) = false := by
          rw [List.any_eq_false]
          intro b hb
          have h2 := hin b (by simp [hb])
          simp only [beq_iff_eq]
          intro h3
          exact hna (by rw [show a = b by omega]; exact hb)
        rw [h1, e]
        simp
      · have h1 : (a.toNat == i) = false := by simp; omega
        have h2 : (i == a.toNat) = false := by simp; omega
        rw [h1, h2]
        simp
    show byteAt (sumL bs (xorB s (rdOf ByteArray.empty bs a)) r) j = _
    rw [ih, hc, xorB_at (hs.trans hsz.symm), UInt8.xor_assoc]
theorem mayRow_lt {n : Int} {l : List Int} (h : mayRowB n l = true) : ∀ j i : Nat, i < j → j < l.length → rd l (i : Int) < rd l (j : Int)
  | j + 1, i, hij, hj => by
    have := (allFrom_iff (mayAt n l) l.length 0).1 h (j + 1) (Nat.zero_le _) (by omega)
    simp only [mayAt, Bool.and_eq_true, Bool.or_eq_true, decide_eq_true_eq] at this
    have h2 : rd l ((j : Nat) : Int) < rd l ((j + 1 : Nat) : Int) := by
      rcases this.2 with h3 | h3
      · omega
      · rwa [show (((j + 1 : Nat) : Int) - 1) = ((j : Nat) : Int) by omega] at h3
    by_cases e : i = j
    · rw [e]; exact h2
    · have := mayRow_lt h j i (by omega) (by omega)
      omega
theorem mayRow_nodup {n : Int} {l : List Int} (h : mayRowB n l = true) : l.Nodup := by
  rw [List.nodup_iff_pairwise_ne, List.pairwise_iff_getElem]
  intro i j hi hj hij e
  have := mayRow_lt h j i hij hj
  simp only [rd, Int.toNat_natCast, List.getD_eq_getElem?_getD, List.getElem?_eq_getElem hi, List.getElem?_eq_getElem hj, Option.getD_some] at this
  omega
theorem may_rows {n : Int} {rows : List (List Int)} (h : mayB n rows = true) : ∀ r ∈ rows, mayRowB n r = true := by
  unfold mayB at h
  simp only [Bool.and_eq_true, List.all_eq_true] at h
  exact h.2
/-- A row with the sum of the blocks that it names. -/
theorem true_row {bs : List ByteArray} {r : List Int} (hz : sizedB bs = true) (hr : mayRowB (bs.length : Int) r = true) : TrueOf bs bs.length (eqSide ⟨r, sumB bs r⟩) := by
  obtain ⟨h1, h2, h3⟩ := sized_parts hz
  have hin := mayRow_in hr
  refine ⟨sumL_size bs _ h3 r _ hin (zeroB_size _), fun j => ?_⟩
  show byteAt (sumL bs (zeroB (size0 bs)) r) j = _
  rw [sum_at bs (size0 bs) bs.length h3 rfl j r _ hin (mayRow_nodup hr) (zeroB_size _), byteAt_zero]
  rw [UInt8.zero_xor]
  exact comb_congr bs j (fun i => (ofL_bit r i).symm) _
/-- A side without numbers has bytes 0. -/
theorem true_none {bs : List ByteArray} {n : Nat} {s : Sd} (h : TrueOf bs n s) (hx : s.x = 0) : s.b = zeroB (size0 bs) := by
  refine bytes_ext (by rw [h.1, zeroB_size]) fun j => ?_
  rw [h.2 j, byteAt_zero, hx]
  exact comb_none bs _ j n fun i _ => Nat.zero_testBit i
/-- The number of a row that has one. -/
def oneX (x : Nat) (i : Int) : Bool := decide ((lst x).length = 1) && decide (rd (lst x) 0 = i)
theorem mem_lst {x i : Nat} (hi : i < 160) (h : x.testBit i = true) : (i : Int) ∈ lst x := by
  unfold lst pre
  exact List.mem_map.2 ⟨i, List.mem_filter.2 ⟨List.mem_range.2 hi, by simpa using h⟩, rfl⟩
theorem oneX_bits {x : Nat} {i : Int} (h : oneX x i = true) : 0 ≤ i ∧ i < 160 ∧ ∀ j, j < 160 → x.testBit j = (j == i.toNat) := by
  unfold oneX at h
  simp only [Bool.and_eq_true, decide_eq_true_eq] at h
  obtain ⟨h1, h2⟩ := h
  obtain ⟨a, ha⟩ := List.length_eq_one_iff.1 h1
  have hi : a = i := by rw [ha] at h2; simpa [rd] using h2
  subst hi
  have hm : a ∈ lst x := by rw [ha]; simp
  have hm1 := lst_mem hm
  have hm2 : a < 160 := by
    unfold lst pre at hm
    obtain ⟨j, hj, rfl⟩ := List.mem_map.1 hm
    have := List.mem_range.1 (List.mem_filter.1 hj).1
    show (j : Int) < 160
    omega
  refine ⟨hm1.1, hm2, fun j hj => ?_⟩
  by_cases e : j = a.toNat
  · rw [e, hm1.2]; simp
  · have : (j == a.toNat) = false := by simpa using e
    rw [this]
    cases hb : x.testBit j with
    | false => rfl
    | true =>
      have := mem_lst hj hb
      rw [ha] at this
      have : (j : Int) = a := by simpa using this
      omega
theorem true_one {bs : List ByteArray} {s : Sd} (hn : bs.length ≤ 160) (hz : ∀ b ∈ bs, b.size = size0 bs) (h : TrueOf bs bs.length s) {i : Nat} (hi : i < bs.length) (hx : oneX s.x (i : Int) = true) : s.b = bs[i] := by
  obtain ⟨_, _, h3⟩ := oneX_bits hx
  refine bytes_ext (by rw [h.1, hz _ (List.getElem_mem _)]) fun j => ?_
  rw [h.2 j, comb_one bs _ j i bs.length hi (fun k hk => by rw [h3 k (by omega), Int.toNat_natCast])]
  simp [List.getD_eq_getElem?_getD, hi]
theorem putO_at {β : Type} (f : ByteArray → β) (e : ByteArray) (o : List ByteArray) (x : Sd) (i : Nat) (hi : i < o.length) : f ((putO o x).getD i e) = if oneX x.x (i : Int) then f x.b else f (o.getD i e) := by
  unfold putO oneX
  by_cases h1 : (lst x.x).length = 1
  · rw [if_pos h1]
    have h0 := (lst_mem (lst_one h1)).1
    by_cases h2 : rd (lst x.x) 0 = (i : Int)
    · rw [decide_eq_true h1, decide_eq_true h2, if_pos (show (true && true) = true from rfl), h2, Int.toNat_natCast, List.getD_eq_getElem?_getD, List.getElem?_set_self hi]
      rfl
    · rw [decide_eq_true h1, decide_eq_false h2, if_neg (by decide), List.getD_eq_getElem?_getD, List.getElem?_set_ne (by omega), List.getD_eq_getElem?_getD]
  · rw [if_neg h1, decide_eq_false h1]
    rfl
theorem outs_at {β : Type} (f : ByteArray → β) (v : β) (e : ByteArray) (i : Nat) : ∀ (L : List Sd) (o : List ByteArray), i < o.length → (∀ s ∈ L, oneX s.x (i : Int) = true → f s.b = v) →
    f ((L.foldl putO o).getD i e) = if L.any (fun s => oneX s.x (i : Int)) then v else f (o.getD i e)
  | [], o, _, _ => rfl
  | x :: L, o, hi, h => by
    rw [List.foldl_cons, outs_at f v e i L (putO o x) (by rw [putO_length]; exact hi) fun s hs => h s (by simp [hs]), putO_at f e o x i hi, List.any_cons]
    cases hx : oneX x.x (i : Int) with
    | false => simp
    | true =>
      rw [h x (by simp) hx]
      cases L.any fun s => oneX s.x (i : Int) <;> simp
theorem any_x {L L' : List Sd} (h : L.map Sd.x = L'.map Sd.x) (p : Nat → Bool) : L.any (fun s => p s.x) = L'.any (fun s => p s.x) := by
  have h1 : ∀ M : List Sd, M.any (fun s => p s.x) = (M.map Sd.x).any p := fun M => by rw [List.any_map]; rfl
  rw [h1, h1, h]
theorem has_fixed (n : Int) (rows : List (List Int)) (i : Int) : hasB (fixedL n rows) i = (leftOf n rows).any fun s => oneX s.x i := by
  unfold hasB fixedL
  rw [List.any_map, List.any_filter]
  rfl
theorem eqB_true {n size : Int} {l : List S41} (hm : mayB n (l.map (fun x : S41 => x.f0)) = true) (h1 : 1 ≤ size ∧ size ≤ 64) (hs : ∀ x ∈ l, (x.f1.size : Int) = size) : eqB n size l = true := by
  unfold eqB
  rw [hm, decide_eq_true h1.1, decide_eq_true h1.2]
  have : l.all (fun x => isB x.f1 size) = true := by
    rw [List.all_eq_true]
    intro x hx
    unfold isB
    rw [decide_eq_true h1.1, decide_eq_true h1.2, hs x hx]
    simp
  rw [this]
  rfl
theorem red_left {n : Nat} {l : List S41} : (redOf n l).2.map Sd.x = (leftOf (n : Int) (l.map (fun x : S41 => x.f0))).map Sd.x := by
  rw [leftOf_nat]
  refine (run_x n 0 ?_ rfl).2
  rw [List.map_map, List.map_map, List.map_map]
  rfl
theorem solve_eq {n sz : Nat} {l : List S41} (hm : mayB n (l.map (fun x : S41 => x.f0)) = true) (h1 : 1 ≤ sz ∧ sz ≤ 64) (hs : ∀ x ∈ l, x.f1.size = sz) :
    solveB n sz l = if (redOf n l).1.any (nzB (zeroB sz)) then ([], 9) else ((redOf n l).2.foldl putO (List.replicate n ⟨#[]⟩), 0) := by
  unfold solveB
  rw [eqB_true hm (by omega) (fun x hx => by rw [hs x hx]), if_pos rfl, Int.toNat_natCast, Int.toNat_natCast]
theorem red_size {n sz : Nat} {l : List S41} (hs : ∀ x ∈ l, x.f1.size = sz) : (∀ s ∈ (redOf n l).1, s.b.size = sz) ∧ ∀ s ∈ (redOf n l).2, s.b.size = sz :=
  run_all (P := fun s => s.b.size = sz) (fun s t h1 h2 => xorB_size h1 h2) n 0 _ _ (fun s h => by obtain ⟨x, hx, rfl⟩ := List.mem_map.1 h; exact hs x hx) (fun s h => by cases h)
/-- Equations of one size: they contradict one another, or a number is solved just where it is fixed. -/
theorem solve_form {n sz : Nat} {l : List S41} (hm : mayB n (l.map (fun x : S41 => x.f0)) = true) (h1 : 1 ≤ sz ∧ sz ≤ 64) (hs : ∀ x ∈ l, x.f1.size = sz) :
    (solveB n sz l = ([], 9)) ∨ ∃ out, solveB n sz l = (out, 0) ∧ out.length = n ∧ ∀ i, i < n → (out.getD i ByteArray.empty).toList.isEmpty = !(hasB (fixedL n (l.map (fun x : S41 => x.f0))) (i : Int)) := by
  rw [solve_eq hm h1 hs]
  cases ha : (redOf n l).1.any (nzB (zeroB sz)) with
  | true => exact .inl (if_pos rfl)
  | false =>
    refine .inr ⟨_, if_neg (by decide), by rw [outs_length, List.length_replicate], fun i hi => ?_⟩
    rw [outs_at (fun b => b.toList.isEmpty) false ByteArray.empty i _ _ (by rw [List.length_replicate]; exact hi) (fun s hs1 _ => ?_), has_fixed, any_x red_left (fun x => oneX x (i : Int))]
    · cases (leftOf (n : Int) (l.map (fun x : S41 => x.f0))).any (fun s => oneX s.x (i : Int)) with
      | true => rfl
      | false =>
        rw [if_neg (by decide), List.getD_eq_getElem?_getD, List.getElem?_replicate, if_pos hi, Lib.toList_data]
        rfl
    · have := (red_size hs).2 s hs1
      rw [Lib.toList_data]
      cases hd : s.b.data.toList with
      | nil =>
        have h2 : s.b.size = 0 := by
          show s.b.data.size = 0
          rw [← Array.length_toList, hd]; rfl
        omega
      | cons _ _ => rfl
theorem solve_true {bs : List ByteArray} {rows : List (List Int)} (hz : sizedB bs = true) (hm : mayB (bs.length : Int) rows = true) :
    ∃ out, solveB bs.length (size0 bs) (rows.map fun r => (⟨r, sumB bs r⟩ : S41)) = (out, 0) ∧ out.length = bs.length ∧
      ∀ i, i < bs.length → out.getD i ByteArray.empty = if hasB (fixedL bs.length rows) (i : Int) then bs.getD i ByteArray.empty else ⟨#[]⟩ := by
  obtain ⟨h1, h2, h3⟩ := sized_parts hz
  obtain ⟨p1, p2, p3, p4⟩ := may_parts hm
  have hf : (rows.map fun r => (⟨r, sumB bs r⟩ : S41)).map (fun x : S41 => x.f0) = rows := by rw [List.map_map]; exact List.map_id _
  have hm' : mayB (bs.length : Int) ((rows.map fun r => (⟨r, sumB bs r⟩ : S41)).map (fun x : S41 => x.f0)) = true := by rw [hf]; exact hm
  have hs : ∀ x ∈ rows.map fun r => (⟨r, sumB bs r⟩ : S41), x.f1.size = size0 bs := fun x hx => by
    obtain ⟨r, hr, rfl⟩ := List.mem_map.1 hx
    exact (true_row hz (may_rows hm r hr)).1
  have hall := run_all (P := TrueOf bs bs.length) TrueOf.plus bs.length 0 ((rows.map fun r => (⟨r, sumB bs r⟩ : S41)).map eqSide) [] (fun s h => by
    obtain ⟨x, hx, rfl⟩ := List.mem_map.1 h
    obtain ⟨r, hr, rfl⟩ := List.mem_map.1 hx
    exact true_row hz (may_rows hm r hr)) (fun s h => by cases h)
  have hdone := run_done (n := bs.length) (sz := size0 bs) (l := (rows.map fun r => (⟨r, sumB bs r⟩ : S41)).map eqSide) (fun s h => by
    obtain ⟨x, hx, rfl⟩ := List.mem_map.1 h
    exact hs x hx) (fun s h => by
    obtain ⟨x, hx, rfl⟩ := List.mem_map.1 h
    obtain ⟨r, hr, rfl⟩ := List.mem_map.1 hx
    exact ofL_high (p4 r hr))
  rw [solve_eq hm' h1 hs]
  have ha : (redOf bs.length (rows.map fun r => (⟨r, sumB bs r⟩ : S41))).1.any (nzB (zeroB (size0 bs))) = false := by
    rw [List.any_eq_false]
    intro s h
    have := true_none (hall.1 s h) (hdone.1 s h)
    unfold nzB
    rw [this]
    simp
  rw [ha]
  refine ⟨_, if_neg (by decide), by rw [outs_length, List.length_replicate], fun i hi => ?_⟩
  have hg : bs.getD i ByteArray.empty = bs[i] := by simp [List.getD_eq_getElem?_getD, hi]
  have ho := outs_at (fun b => b) bs[i] ByteArray.empty i (redOf bs.length (rows.map fun r => (⟨r, sumB bs r⟩ : S41))).2 (List.replicate bs.length ⟨#[]⟩) (by rw [List.length_replicate]; exact hi) (fun s hs1 ho => true_one (by omega) h3 (hall.2 s hs1) hi ho)
  refine ho.trans ?_
  rw [has_fixed, any_x red_left (fun x => oneX x (i : Int)), hf, hg]
  cases (leftOf (bs.length : Int) rows).any (fun s => oneX s.x (i : Int)) with
  | true => rfl
  | false =>
    rw [if_neg (by decide), if_neg (by decide), List.getD_eq_getElem?_getD, List.getElem?_replicate, if_pos hi]
    rfl
end Go.Proofs.Ytgcgnnblgimegaa.P
