/- What the claim on this statement wants of the text YtgcgnnblgimegaaESolvesP. Not trusted: Lean checks it. -/
import Derived.Test.YtgcgnnblgimegaaK2ERefSolve
namespace Go.Proofs.Ytgcgnnblgimegaa.P
open Go.RowKit Go.Proofs.YtgcgnnblgimegaaW.PrintWords
open Go.Proofs.Ytgcgnnblgimegaa.Red Go.Proofs.Ytgcgnnblgimegaa.Alg
def Good (n : Nat) (r : List Int) : Prop := (∀ i ∈ r, 0 ≤ i ∧ i < (n : Int)) ∧ r.Pairwise (· < ·)
def sv (s : S41) : V := (eqSide s).v
theorem sv_x (s : S41) (i : Nat) : (sv s).x i = (ofL s.f0).testBit i := rfl
theorem sv_b (s : S41) (i : Nat) : (sv s).b i = byteAt s.f1 i := rfl
theorem has_bit {r : List Int} (h : ∀ i ∈ r, 0 ≤ i) (i : Nat) : hasB r (i : Int) = (ofL r).testBit i := by
  rw [ofL_bit]
  unfold hasB
  rw [Bool.eq_iff_iff, List.any_eq_true, List.any_eq_true]
  constructor
  · rintro ⟨a, ha, he⟩
    exact ⟨a, ha, by simp at he; simp [he]⟩
  · rintro ⟨a, ha, he⟩
    have h0 := h a ha
    exact ⟨a, ha, by simp at he; simp; omega⟩
theorem addTo_good (a b : List Int) (n : Nat) : Good n (addTo a b n) := by
  unfold addTo
  refine ⟨fun i hi => ?_, ?_⟩
  · obtain ⟨j, hj, rfl⟩ := List.mem_map.1 hi
    have := List.mem_range.1 (List.mem_filter.1 hj).1
    exact ⟨by simp, by simpa using this⟩
  · rw [List.pairwise_map]
    exact (List.pairwise_lt_range.filter _).imp fun h => by simpa using h
theorem addTo_bit {a b : List Int} {n : Nat} (ha : ∀ i ∈ a, 0 ≤ i ∧ i < (n : Int)) (hb : ∀ i ∈ b, 0 ≤ i ∧ i < (n : Int)) (i : Nat) :
    (ofL (addTo a b n)).testBit i = Bool.xor ((ofL a).testBit i) ((ofL b).testBit i) := by
  by_cases hi : i < n
  · rw [← has_bit (fun j hj => (ha j hj).1), ← has_bit (fun j hj => (hb j hj).1), ← has_bit (fun j hj => ((addTo_good a b n).1 j hj).1)]
    unfold hasB addTo
    rw [Bool.eq_iff_iff, List.any_eq_true]
    constructor
    · rintro ⟨j, hj, he⟩
      obtain ⟨m, hm, rfl⟩ := List.mem_map.1 hj
      obtain rfl : m = i := Int.ofNat_inj.1 (of_decide_eq_true he)
      have := (List.mem_filter.1 hm).2
      unfold hasB at this
      simpa [bne] using this
    · intro h
      refine ⟨(i : Int), List.mem_map.2 ⟨i, List.mem_filter.2 ⟨List.mem_range.2 hi, ?_⟩, rfl⟩, by simp⟩
      unfold hasB
      simpa [bne] using h
  · rw [ofL_high (addTo_good a b n).1 i (by omega), ofL_high ha i (by omega), ofL_high hb i (by omega)]; rfl
theorem plus_sv {n : Nat} {s t : S41} (hs : ∀ i ∈ s.f0, 0 ≤ i ∧ i < (n : Int)) (ht : ∀ i ∈ t.f0, 0 ≤ i ∧ i < (n : Int)) (hz : s.f1.size = t.f1.size) : sv (plusB n s t) = sv s + sv t :=
  V.ext' (fun i => by rw [sv_x, add_x, sv_x, sv_x]; exact addTo_bit hs ht i) (fun i => by rw [add_b, sv_b, sv_b, sv_b]; exact xorB_at hz i)
/-- A row of the reference: its numbers rise below n, its text is of one size. -/
structure Rr (n sz : Nat) (s : S41) : Prop where
  good : Good n s.f0
  size : s.f1.size = sz
theorem Rr.plus {n sz : Nat} {s t : S41} (hs : Rr n sz s) (ht : Rr n sz t) : Rr n sz (plusB n s t) := ⟨addTo_good _ _ _, xorB_size hs.size ht.size⟩
theorem rr_sv {n sz : Nat} {s t : S41} (hs : Rr n sz s) (ht : Rr n sz t) : sv (plusB n s t) = sv s + sv t := plus_sv hs.good.1 ht.good.1 (hs.size.trans ht.size.symm)
def fst (n : Nat) (s : S41) : Nat := (firstB n s.f0).toNat
theorem first_at {n sz : Nat} {s : S41} (h : Rr n sz s) (hne : s.f0 ≠ []) : firstB n s.f0 = (fst n s : Int) ∧ (sv s).x (fst n s) = true ∧ ∀ i, (sv s).x i = true → fst n s ≤ i := by
  unfold fst
  obtain ⟨hg, _⟩ := h
  cases hf : s.f0 with
  | nil => exact absurd hf hne
  | cons a r =>
    have e : firstB n (a :: r) = a := by unfold firstB; rw [if_neg (by simp)]; rfl
    rw [e]
    rw [hf] at hg
    have h0 := hg.1 a List.mem_cons_self
    refine ⟨by omega, ?_, fun i hi => ?_⟩
    · rw [sv_x, hf, ofL_bit, List.any_cons]; simp
    · rw [sv_x, hf, ofL_bit, List.any_eq_true] at hi
      obtain ⟨b, hb, he⟩ := hi
      have hbi : b.toNat = i := by simpa using he
      rcases List.mem_cons.1 hb with rfl | hb'
      · omega
      · have := (List.pairwise_cons.1 hg.2).1 b hb'
        omega
theorem has_sv {n sz : Nat} {s : S41} (h : Rr n sz s) (i : Nat) : hasB s.f0 (i : Int) = (sv s).x i := has_bit (fun j hj => (h.good.1 j hj).1) i
theorem Rr.empty {n sz : Nat} {s : S41} (h : Rr n sz s) (he : ∀ i, (sv s).x i = false) : s.f0 = [] := by
  cases hf : s.f0 with
  | nil => rfl
  | cons a r =>
    have := (first_at h (by rw [hf]; simp)).2.1
    rw [he] at this
    cases this
def fv (n : Nat) (s : S41) : Nat × V := (fst n s, sv s)
/-- Rows that are reduced. -/
structure Rd (n sz : Nat) (L : List S41) : Prop where
  row : ∀ s ∈ L, Rr n sz s ∧ s.f0 ≠ []
  form : Alg.Form (L.map (fv n))
theorem red1_spec {n sz : Nat} : ∀ (L : List S41) (x : S41) (D : List Nat), Rr n sz x → (∀ s ∈ L, Rr n sz s ∧ s.f0 ≠ []) → (L.Pairwise fun a b => (sv a).x (fst n b) = false ∧ (sv b).x (fst n a) = false) →
    (∀ d ∈ D, (sv x).x d = false ∧ ∀ y ∈ L, (sv y).x d = false) →
    Rr n sz (red1 n x L) ∧ (∀ d ∈ D, (sv (red1 n x L)).x d = false) ∧ (∀ y ∈ L, (sv (red1 n x L)).x (fst n y) = false) ∧ Span (L.map sv) (sv (red1 n x L) + sv x)
  | [], x, D, hx, _, _, hD => ⟨hx, fun d hd => (hD d hd).1, fun _ h => (by cases h), by show Span _ (sv x + sv x); rw [add_self]; exact Span.zero⟩
  | y :: L, x, D, hx, hL, hp, hD => by
    obtain ⟨hp1, hp2⟩ := List.pairwise_cons.1 hp
    obtain ⟨hy, hyn⟩ := hL y List.mem_cons_self
    obtain ⟨f1, f2, _⟩ := first_at hy hyn
    have hstep : red1 n x (y :: L) = red1 n (if hasB x.f0 (firstB n y.f0) then plusB n x y else x) L := rfl
    obtain ⟨x1, hx1⟩ : ∃ x1, x1 = (if hasB x.f0 (firstB n y.f0) then plusB n x y else x) := ⟨_, rfl⟩
    rw [hstep, ← hx1]
    have key : Rr n sz x1 ∧ (sv x1).x (fst n y) = false ∧ (∀ d ∈ D, (sv x1).x d = false) ∧ Span ((y :: L).map sv) (sv x1 + sv x) := by
      rw [f1, has_sv hx] at hx1
      cases hb : (sv x).x (fst n y) with
      | true =>
        rw [hb, if_pos rfl] at hx1
        rw [hx1, rr_sv hx hy]
        refine ⟨hx.plus hy, by rw [add_x, hb, f2]; rfl, fun d hd => by rw [add_x, (hD d hd).1, (hD d hd).2 y List.mem_cons_self]; rfl, ?_⟩
        rw [add_comm (sv x), add_assoc, add_self, add_zero]
        exact Span.mem (by simp)
      | false =>
        rw [hb, if_neg (by decide)] at hx1
        rw [hx1]
        exact ⟨hx, hb, fun d hd => (hD d hd).1, by rw [add_self]; exact Span.zero⟩
    obtain ⟨k1, k2, k3, k4⟩ := key
    obtain ⟨r1, r2, r3, r4⟩ := red1_spec L x1 (fst n y :: D) k1 (fun s hs => hL s (List.mem_cons_of_mem _ hs)) hp2 (fun d hd => by
      rcases List.mem_cons.1 hd with rfl | hd
      · exact ⟨k2, fun z hz => (hp1 z hz).2⟩
      · exact ⟨k3 d hd, fun z hz => (hD d hd).2 z (List.mem_cons_of_mem _ hz)⟩)
    refine ⟨r1, fun d hd => r2 d (List.mem_cons_of_mem _ hd), fun z hz => ?_, ?_⟩
    · rcases List.mem_cons.1 hz with rfl | hz
      · exact r2 _ List.mem_cons_self
      · exact r3 z hz
    · have h := (Span.mono (m := (y :: L).map sv) (fun s hs => List.mem_cons_of_mem _ hs) r4).sum k4
      rw [add_assoc, add_cancel] at h
      exact h
def upd (n : Nat) (x y : S41) : S41 := if hasB y.f0 (firstB n x.f0) then plusB n y x else y
theorem red2_perm (n : Nat) (x : S41) : ∀ (L : List S41) (st : List S41 × Bool), ((L.foldl (red2 n x) st).1 ++ if (L.foldl (red2 n x) st).2 then [] else [x]).Perm (st.1 ++ (if st.2 then [] else [x]) ++ L.map (upd n x))
  | [], st => by rw [List.map_nil, List.append_nil]; exact List.Perm.refl _
  | y :: L, (A, put) => by
    rw [List.foldl_cons]
    refine (red2_perm n x L (red2 n x (A, put) y)).trans ?_
    have e : red2 n x (A, put) y = if (!put && decide (firstB n x.f0 < firstB n (upd n x y).f0)) then (A ++ [x] ++ [upd n x y], true) else (A ++ [upd n x y], put) := rfl
    rw [e, List.map_cons]
    by_cases h : (!put && decide (firstB n x.f0 < firstB n (upd n x y).f0)) = true
    · rw [if_pos h]
      cases put with
      | true => cases h
      | false => simp
    · rw [if_neg h]
      cases put with
      | true => simp
      | false =>
        show (A ++ [upd n x y] ++ [x] ++ L.map (upd n x)).Perm (A ++ [x] ++ (upd n x y :: L.map (upd n x)))
        rw [List.append_assoc, List.append_assoc, List.append_assoc]
        exact List.Perm.append_left A (List.Perm.swap _ _ _)
theorem redL_perm (n : Nat) (x : S41) (L : List S41) : (redL n x L).Perm (x :: L.map (upd n x)) := by
  have h := red2_perm n x L ([], false)
  unfold redL
  dsimp only
  have e : (if (L.foldl (red2 n x) ([], false)).2 = true then (L.foldl (red2 n x) ([], false)).1 else (L.foldl (red2 n x) ([], false)).1 ++ [x]) = (L.foldl (red2 n x) ([], false)).1 ++ (if (L.foldl (red2 n x) ([], false)).2 then [] else [x]) := by
    cases (L.foldl (red2 n x) ([], false)).2 <;> simp
  rw [e]
  exact h
theorem upd_spec {n sz : Nat} {x y : S41} (hx : Rr n sz x) (hxn : x.f0 ≠ []) (hy : Rr n sz y) (hyn : y.f0 ≠ []) (hp : (sv x).x (fst n y) = false) :
    Rr n sz (upd n x y) ∧ (upd n x y).f0 ≠ [] ∧ fst n (upd n x y) = fst n y ∧ (sv (upd n x y)).x (fst n x) = false ∧ (sv (upd n x y) = sv y + sv x ∨ sv (upd n x y) = sv y) := by
  obtain ⟨f1, f2, f3⟩ := first_at hx hxn
  obtain ⟨g1, g2, g3⟩ := first_at hy hyn
  have core : ∀ u : S41, u = upd n x y → Rr n sz u ∧ (sv u).x (fst n x) = false ∧ (sv u = sv y + sv x ∨ sv u = sv y) ∧ (∀ q, (sv u).x q = true → fst n y ≤ q) ∧ (sv u).x (fst n y) = true := by
    intro u hu
    unfold upd at hu
    rw [f1, has_sv hy] at hu
    cases hb : (sv y).x (fst n x) with
    | true =>
      rw [hb, if_pos rfl] at hu
      have hv : sv u = sv y + sv x := by rw [hu, rr_sv hy hx]
      refine ⟨by rw [hu]; exact hy.plus hx, by rw [hv, add_x, hb, f2]; rfl, .inl hv, fun q hq => ?_, by rw [hv, add_x, g2, hp]; rfl⟩
      rw [hv, add_x] at hq
      cases hyq : (sv y).x q with
      | true => exact g3 q hyq
      | false =>
        rw [hyq] at hq
        have hxq : (sv x).x q = true := by simpa using hq
        exact Nat.le_trans (g3 _ hb) (f3 q hxq)
    | false =>
      rw [hb, if_neg (by decide)] at hu
      rw [hu]
      exact ⟨hy, hb, .inr rfl, g3, g2⟩
  obtain ⟨c1, c2, c3, c4, c5⟩ := core _ rfl
  have hne : (upd n x y).f0 ≠ [] := by
    intro e
    rw [sv_x, e] at c5
    simp [ofL] at c5
  obtain ⟨k1, k2, k3⟩ := first_at c1 hne
  exact ⟨c1, hne, Nat.le_antisymm (k3 _ c5) (c4 _ k2), c2, c3⟩
def zv (b : ByteArray) : V := ⟨fun _ => false, byteAt b⟩
theorem sv_empty {x : S41} (h : x.f0 = []) : sv x = zv x.f1 := V.ext' (fun i => by rw [sv_x, h]; show (ofL []).testBit i = false; simp [ofL]) (fun i => rfl)
/-- What holds behind some rows. -/
structure Rst (n sz : Nat) (T : List S41) (st : List S41 × List ByteArray) : Prop where
  rd : Rd n sz st.1
  size : ∀ b ∈ st.2, b.size = sz
  alike : Alg.Alike (T.map sv) (st.1.map sv ++ st.2.map zv)
theorem pw_fv {n : Nat} {L : List S41} (h : Alg.Form (L.map (fv n))) : L.Pairwise fun a b => (sv a).x (fst n b) = false ∧ (sv b).x (fst n a) = false := List.pairwise_map.1 h.apart
theorem Rst.next {n sz : Nat} {T : List S41} {st : List S41 × List ByteArray} (h : Rst n sz T st) {x0 : S41} (hx0 : Rr n sz x0) : Rst n sz (T ++ [x0]) (redS n st x0) := by
  obtain ⟨L, E⟩ := st
  obtain ⟨r1, _, r3, r4⟩ := red1_spec L x0 [] hx0 h.rd.row (pw_fv h.rd.form) (fun _ hd => by cases hd)
  unfold redS
  dsimp only
  obtain ⟨x, hx⟩ : ∃ x, x = red1 n x0 L := ⟨_, rfl⟩
  rw [← hx] at r1 r3 r4 ⊢
  have fromT : ∀ M : List V, (∀ v ∈ L.map sv ++ E.map zv, Span M v) → Span M (sv x) → (∀ v ∈ L.map sv, Span M v) → ∀ s ∈ (T ++ [x0]).map sv, Span M s := by
    intro M h1 h2 h3 s hs
    rw [List.map_append] at hs
    rcases List.mem_append.1 hs with hs | hs
    · exact ((h.alike s).1 (Span.mem hs)).of h1
    · have hs' : s = sv x0 := by simpa using hs
      rw [hs']
      have := (r4.of h3).sum h2
      rwa [add_comm (sv x), add_assoc, add_self, add_zero] at this
  have toT : ∀ v ∈ L.map sv ++ E.map zv, Span ((T ++ [x0]).map sv) v := fun v hv => Span.mono (fun s hs => by rw [List.map_append]; exact List.mem_append_left _ hs) ((h.alike v).2 (Span.mem hv))
  have hx0T : Span ((T ++ [x0]).map sv) (sv x0) := Span.mem (by simp)
  have hxT : Span ((T ++ [x0]).map sv) (sv x) := by
    have := (r4.of (fun v hv => toT v (List.mem_append_left _ hv))).sum hx0T
    rwa [add_assoc, add_self, add_zero] at this
  by_cases he : x.f0.length = 0
  · rw [if_pos he]
    have hxz := sv_empty (List.length_eq_zero_iff.1 he)
    refine ⟨h.rd, fun b hb => ?_, Alg.Alike.of (fromT _ (fun v hv => ?_) ?_ (fun v hv => ?_)) (fun v hv => ?_)⟩
    · rcases List.mem_append.1 hb with hb | hb
      · exact h.size b hb
      · rw [List.mem_singleton.1 hb]; exact r1.size
    · refine Span.mem ?_
      rw [List.map_append, ← List.append_assoc]
      exact List.mem_append_left _ hv
    · rw [hxz]
      exact Span.mem (by simp)
    · exact Span.mem (List.mem_append_left _ hv)
    · rw [List.map_append, ← List.append_assoc] at hv
      rcases List.mem_append.1 hv with hv | hv
      · exact toT v hv
      · have : v = zv x.f1 := by simpa using hv
        rw [this, ← hxz]
        exact hxT
  · rw [if_neg he]
    have hxn : x.f0 ≠ [] := fun e => he (by rw [e]; rfl)
    have hperm := redL_perm n x L
    have hu : ∀ y ∈ L, _ := fun y hy => upd_spec r1 hxn (h.rd.row y hy).1 (h.rd.row y hy).2 (r3 y hy)
    have hpw : (x :: L.map (upd n x)).Pairwise fun a b => (sv a).x (fst n b) = false ∧ (sv b).x (fst n a) = false := by
      refine List.pairwise_cons.2 ⟨fun b hb => ?_, ?_⟩
      · obtain ⟨y, hy, rfl⟩ := List.mem_map.1 hb
        obtain ⟨_, _, u3, u4, _⟩ := hu y hy
        exact ⟨by rw [u3]; exact r3 y hy, u4⟩
      · rw [List.pairwise_map]
        refine (pw_fv h.rd.form).imp_of_mem fun {a b} ha hb hab => ?_
        obtain ⟨_, _, a3, _, a5⟩ := hu a ha
        obtain ⟨_, _, b3, _, b5⟩ := hu b hb
        rw [a3, b3]
        constructor
        · rcases a5 with e | e
          · rw [e, add_x, hab.1, r3 b hb]; rfl
          · rw [e]; exact hab.1
        · rcases b5 with e | e
          · rw [e, add_x, hab.2, r3 a ha]; rfl
          · rw [e]; exact hab.2
    have hrow : ∀ s ∈ redL n x L, Rr n sz s ∧ s.f0 ≠ [] := fun s hs => by
      rcases List.mem_cons.1 (hperm.mem_iff.1 hs) with rfl | hs
      · exact ⟨r1, hxn⟩
      · obtain ⟨y, hy, rfl⟩ := List.mem_map.1 hs
        exact ⟨(hu y hy).1, (hu y hy).2.1⟩
    have hx2 : sv x ∈ (redL n x L).map sv := List.mem_map_of_mem (hperm.mem_iff.2 List.mem_cons_self)
    have hL2 : ∀ v ∈ L.map sv, Span ((redL n x L).map sv ++ E.map zv) v := fun v hv => by
      obtain ⟨y, hy, rfl⟩ := List.mem_map.1 hv
      have hm : Span ((redL n x L).map sv ++ E.map zv) (sv (upd n x y)) := Span.mem (List.mem_append_left _ (List.mem_map_of_mem (hperm.mem_iff.2 (List.mem_cons_of_mem _ (List.mem_map_of_mem hy)))))
      rcases (hu y hy).2.2.2.2 with e | e
      · have := hm.sum (Span.mem (List.mem_append_left _ hx2))
        rwa [e, add_assoc, add_self, add_zero] at this
      · rwa [e] at hm
    refine ⟨⟨hrow, ⟨fun a ha => ?_, ?_⟩⟩, h.size, Alg.Alike.of (fromT _ (fun v hv => ?_) (Span.mem (List.mem_append_left _ hx2)) hL2) (fun v hv => ?_)⟩
    · obtain ⟨s, hs, rfl⟩ := List.mem_map.1 ha
      exact (first_at (hrow s hs).1 (hrow s hs).2).2.1
    · rw [List.pairwise_map]
      exact (hperm.pairwise_iff (fun {a b} hab => ⟨hab.2, hab.1⟩)).2 hpw
    · rcases List.mem_append.1 hv with hv | hv
      · exact hL2 v hv
      · exact Span.mem (List.mem_append_right _ hv)
    · rcases List.mem_append.1 hv with hv | hv
      · obtain ⟨s, hs, rfl⟩ := List.mem_map.1 hv
        rcases List.mem_cons.1 (hperm.mem_iff.1 hs) with rfl | hs
        · exact hxT
        · obtain ⟨y, hy, rfl⟩ := List.mem_map.1 hs
          have hyT := toT (sv y) (List.mem_append_left _ (List.mem_map_of_mem hy))
          rcases (hu y hy).2.2.2.2 with e | e
          · rw [e]; exact hyT.sum hxT
          · rw [e]; exact hyT
      · exact toT v (List.mem_append_right _ hv)
theorem redR_spec {n sz : Nat} {l : List S41} (hl : ∀ x ∈ l, Rr n sz x) : Rst n sz l (redR n l) := by
  have : ∀ (l T : List S41) (st : List S41 × List ByteArray), (∀ x ∈ l, Rr n sz x) → Rst n sz T st → Rst n sz (T ++ l) (l.foldl (redS n) st) := by
    intro l
    induction l with
    | nil => intro T st _ h; simpa using h
    | cons x l ih =>
      intro T st hl h
      have := ih (T ++ [x]) (redS n st x) (fun y hy => hl y (List.mem_cons_of_mem _ hy)) (h.next (hl x List.mem_cons_self))
      rw [List.append_assoc] at this
      exact this
  have h := this l [] ([], []) hl ⟨⟨(fun _ h => by cases h), ⟨(fun _ h => by cases h), List.Pairwise.nil⟩⟩, (fun _ h => by cases h), Alg.Alike.refl _⟩
  exact h
def Bad (S : List V) : Prop := ∃ v, Span S v ∧ (∀ i, v.x i = false) ∧ ∃ j, v.b j ≠ 0
theorem list_ext {a b : ByteArray} (h : a.toList = b.toList) : a = b := by
  rw [Lib.toList_data, Lib.toList_data] at h
  exact ByteArray.ext (Array.ext' h)
theorem nzT_true {sz : Nat} {b : ByteArray} (hb : b.size = sz) : nzT (zeroB sz) b = true ↔ ∃ j, byteAt b j ≠ 0 := by
  unfold nzT
  constructor
  · intro h
    refine Classical.byContradiction fun hn => ?_
    have : b = zeroB sz := bytes_ext (hb.trans (zeroB_size sz).symm) fun i => by
      rw [byteAt_zero]
      exact Classical.byContradiction fun hi => hn ⟨i, hi⟩
    rw [this] at h
    simp at h
  · rintro ⟨j, hj⟩
    cases he : b.toList == (zeroB sz).toList with
    | false => rfl
    | true =>
      have := list_ext (beq_iff_eq.1 he)
      rw [this, byteAt_zero] at hj
      exact absurd rfl hj
theorem bad_iff {S : List V} {L : List (Nat × V)} {E : List ByteArray} {sz : Nat} (F : Alg.Form L) (hE : ∀ b ∈ E, b.size = sz) (h : Alg.Alike S (L.map (·.2) ++ E.map zv)) : E.any (nzT (zeroB sz)) = true ↔ Bad S := by
  constructor
  · intro ha
    obtain ⟨b, hb, hz⟩ := List.any_eq_true.1 ha
    exact ⟨zv b, (h _).2 (Span.mem (List.mem_append_right _ (List.mem_map_of_mem hb))), fun _ => rfl, (nzT_true (hE b hb)).1 hz⟩
  · rintro ⟨v, hv, hx, j, hj⟩
    refine Classical.byContradiction fun hn => hj ?_
    have hz : ∀ s ∈ E.map zv, s = 0 := fun s hs => by
      obtain ⟨b, hb, rfl⟩ := List.mem_map.1 hs
      refine V.ext' (fun _ => rfl) (fun i => ?_)
      show byteAt b i = 0
      refine Classical.byContradiction fun hi => hn (List.any_eq_true.2 ⟨b, hb, (nzT_true (hE b hb)).2 ⟨i, hi⟩⟩)
    have := span_none F (span_zeros ((h v).1 hv) hz) (fun a _ => hx a.1)
    rw [this]; rfl
theorem one_of_span {S : List V} {L : List (Nat × V)} {E : List ByteArray} {sz : Nat} (F : Alg.Form L) (hE : ∀ b ∈ E, b.size = sz) (h : Alg.Alike S (L.map (·.2) ++ E.map zv)) (hb : ¬ Bad S) {v : V} (hv : Span S v) (i : Nat) (hx : ∀ j, v.x j = (j == i)) : v ∈ L.map (·.2) := by
  have ha : E.any (nzT (zeroB sz)) = false := by
    cases e : E.any (nzT (zeroB sz)) with
    | false => rfl
    | true => exact absurd ((bad_iff F hE h).1 e) hb
  have hz : ∀ s ∈ E.map zv, s = 0 := fun s hs => by
    obtain ⟨b, hbE, rfl⟩ := List.mem_map.1 hs
    refine V.ext' (fun _ => rfl) (fun i => ?_)
    show byteAt b i = 0
    refine Classical.byContradiction fun hi => ?_
    have := List.any_eq_false.1 ha b hbE
    exact this ((nzT_true (hE b hbE)).2 ⟨i, hi⟩)
  exact span_one F (span_zeros ((h v).1 hv) hz) i hx
theorem span_uniq {S : List V} (hb : ¬ Bad S) {u v : V} (hu : Span S u) (hv : Span S v) (hx : ∀ j, u.x j = v.x j) : ∀ j, u.b j = v.b j := by
  intro j
  refine Classical.byContradiction fun hn => hb ⟨u + v, hu.sum hv, fun i => by rw [add_x, hx i]; simp, j, ?_⟩
  rw [add_b]
  intro h
  apply hn
  have := congrArg (· ^^^ v.b j) h
  simpa [UInt8.xor_assoc] using this
theorem oneX_iff {n : Nat} (hn : n ≤ 160) {x : Nat} (hx : ∀ j, n ≤ j → x.testBit j = false) {i : Nat} (hi : i < n) : oneX x (i : Int) = true ↔ ∀ j, x.testBit j = (j == i) := by
  constructor
  · intro h j
    obtain ⟨_, _, h3⟩ := oneX_bits h
    by_cases hj : j < 160
    · rw [h3 j hj, Int.toNat_natCast]
    · rw [hx j (by omega)]
      have : ¬ j = i := by omega
      simp [this]
  · intro h
    have hm : (i : Int) ∈ lst x := mem_lst (by omega) (by rw [h]; simp)
    have hall : ∀ a ∈ lst x, a = (i : Int) := fun a ha => by
      obtain ⟨h0, hb⟩ := lst_mem ha
      rw [h] at hb
      have : a.toNat = i := by simpa using hb
      omega
    have hnd : (lst x).Nodup := by
      unfold lst pre
      exact (List.Pairwise.filter _ List.nodup_range).map _ (fun a b hab e => hab (Int.ofNat_inj.1 e))
    have hlen : (lst x).length = 1 := by
      match hl : lst x with
      | [] => rw [hl] at hm; cases hm
      | [a] => rfl
      | a :: b :: r =>
        rw [hl] at hnd hall
        have h1 := hall a (by simp)
        have h2 := hall b (by simp)
        exact absurd (h1.trans h2.symm) (by have := (List.nodup_cons.1 hnd).1; intro e; exact this (by rw [e]; simp))
    unfold oneX
    rw [decide_eq_true hlen, decide_eq_true (hall _ (lst_one hlen))]
    rfl
theorem one_iff {n sz : Nat} {s : S41} (h : Rr n sz s) (i : Nat) : (s.f0.length = 1 ∧ rd s.f0 0 = (i : Int)) ↔ ∀ j, (sv s).x j = (j == i) := by
  constructor
  · rintro ⟨h1, h2⟩ j
    obtain ⟨a, ha⟩ := List.length_eq_one_iff.1 h1
    rw [ha] at h2
    have e : a = (i : Int) := h2
    rw [sv_x, ofL_bit, ha, e, List.any_cons, List.any_nil, Bool.or_false, Int.toNat_natCast]
    exact Bool.eq_iff_iff.2 ⟨fun h => beq_iff_eq.2 (beq_iff_eq.1 h).symm, fun h => beq_iff_eq.2 (beq_iff_eq.1 h).symm⟩
  · intro hx
    have hall : ∀ a ∈ s.f0, a = (i : Int) := fun a ha => by
      have h0 := (h.good.1 a ha).1
      have hb := hx a.toNat
      rw [← has_sv h, Int.toNat_of_nonneg h0] at hb
      have ht : hasB s.f0 a = true := List.any_eq_true.2 ⟨a, ha, by simp⟩
      rw [ht] at hb
      have : a.toNat = i := by simpa using hb.symm
      omega
    have hi := hx i
    rw [← has_sv h] at hi
    obtain ⟨a, ha, _⟩ := List.any_eq_true.1 (show hasB s.f0 (i : Int) = true by rw [hi]; simp)
    match hl : s.f0 with
    | [] => rw [hl] at ha; cases ha
    | [b] => exact ⟨rfl, hall b (by rw [hl]; simp)⟩
    | b :: c :: r =>
      have hp := h.good.2
      rw [hl] at hp hall
      have h1 := (List.pairwise_cons.1 hp).1 c (by simp)
      have h2 := hall b (by simp)
      have h3 := hall c (by simp)
      omega
theorem pick_none {L : List S41} {i : Int} (h : ∀ s ∈ L, ¬ (s.f0.length = 1 ∧ rd s.f0 0 = i)) : pickB L i = ⟨#[]⟩ := by
  unfold pickB
  have : ∀ (L : List S41) (b : ByteArray), (∀ s ∈ L, ¬ (s.f0.length = 1 ∧ rd s.f0 0 = i)) → L.foldl (fun b x => if x.f0.length = 1 ∧ rd x.f0 0 = i then x.f1 else b) b = b := by
    intro L
    induction L with
    | nil => intro b _; rfl
    | cons x L ih =>
      intro b h
      rw [List.foldl_cons, if_neg (h x (by simp))]
      exact ih b (fun s hs => h s (by simp [hs]))
  exact this L _ h
theorem pick_some {L : List S41} {i : Int} {v : ByteArray} (h : ∀ s ∈ L, s.f0.length = 1 ∧ rd s.f0 0 = i → s.f1 = v) (hex : ∃ s ∈ L, s.f0.length = 1 ∧ rd s.f0 0 = i) : pickB L i = v := by
  unfold pickB
  have : ∀ (L : List S41) (b : ByteArray), (∀ s ∈ L, s.f0.length = 1 ∧ rd s.f0 0 = i → s.f1 = v) → (b = v ∨ ∃ s ∈ L, s.f0.length = 1 ∧ rd s.f0 0 = i) → L.foldl (fun b x => if x.f0.length = 1 ∧ rd x.f0 0 = i then x.f1 else b) b = v := by
    intro L
    induction L with
    | nil =>
      intro b _ hb
      rcases hb with hb | ⟨s, hs, _⟩
      · exact hb
      · cases hs
    | cons x L ih =>
      intro b h hb
      rw [List.foldl_cons]
      by_cases hx : x.f0.length = 1 ∧ rd x.f0 0 = i
      · rw [if_pos hx]
        exact ih _ (fun s hs => h s (by simp [hs])) (.inl (h x (by simp) hx))
      · rw [if_neg hx]
        refine ih _ (fun s hs => h s (by simp [hs])) ?_
        rcases hb with hb | ⟨s, hs, hp⟩
        · exact .inl hb
        · rcases List.mem_cons.1 hs with rfl | hs
          · exact absurd hp hx
          · exact .inr ⟨s, hs, hp⟩
  exact this L _ h (.inr hex)
theorem mayRow_good {n : Nat} {r : List Int} (h : mayRowB (n : Int) r = true) (hin : ∀ i ∈ r, 0 ≤ i ∧ i < (n : Int)) : Good n r := by
  refine ⟨hin, ?_⟩
  rw [List.pairwise_iff_getElem]
  intro i j hi hj hij
  have := mayRow_lt h j i hij hj
  simpa [rd, hi, hj] using this
/-- THE PROGRAM'S SOLUTION IS THE REFERENCE'S. -/
theorem solve_same (a0 a1 : Int) (l : List S41) : solveB a0 a1 l = refSolveB a0 a1 l := by
  have hok : eqB a0 a1 l = okB a0 a1 l := by
    unfold eqB okB isB
    by_cases h1 : 1 ≤ a1
    · by_cases h2 : a1 ≤ 64
      · rw [decide_eq_true h1, decide_eq_true h2]; simp
      · rw [decide_eq_false h2]; simp
    · rw [decide_eq_false h1]; simp
  cases ho : okB a0 a1 l with
  | false =>
    unfold solveB refSolveB
    rw [hok, ho]; rfl
  | true =>
    obtain ⟨⟨p1, p2⟩, p3, p4⟩ := eqB_parts (hok.trans ho)
    obtain ⟨n, rfl⟩ : ∃ n : Nat, a0 = (n : Int) := ⟨a0.toNat, by omega⟩
    obtain ⟨sz, rfl⟩ : ∃ sz : Nat, a1 = (sz : Int) := ⟨a1.toNat, by omega⟩
    have hm : mayB (n : Int) (l.map (fun x : S41 => x.f0)) = true := by
      unfold okB at ho
      simp only [Bool.and_eq_true] at ho
      exact ho.2
    have p2N : n ≤ 160 := by omega
    have hs : ∀ x ∈ l, x.f1.size = sz := fun x hx => by have := (p4 x hx).1; omega
    have hrow : ∀ x ∈ l, Rr n sz x := fun x hx => ⟨mayRow_good (may_rows hm _ (List.mem_map_of_mem hx)) (p4 x hx).2, hs x hx⟩
    rw [solve_eq hm (by omega) hs]
    unfold refSolveB
    rw [ho, if_pos rfl, Int.toNat_natCast, Int.toNat_natCast]
    -- the program's side
    obtain ⟨d1, d2⟩ := run_done (n := n) (sz := sz) (l := l.map eqSide) (fun s hs' => by
      obtain ⟨x, hx, rfl⟩ := List.mem_map.1 hs'
      exact hs x hx) (fun s hs' => by
      obtain ⟨x, hx, rfl⟩ := List.mem_map.1 hs'
      exact ofL_high (p4 x hx).2)
    obtain ⟨R, hR⟩ : ∃ R, R = redOf n l := ⟨_, rfl⟩
    have d1' : ∀ s ∈ R.1, s.x = 0 := by rw [hR]; exact d1
    have d2' : Inv n n sz (l.map eqSide) R.1 R.2 := by rw [hR]; exact d2
    rw [← hR]
    clear d1 d2 hR
    obtain ⟨c, hc, _, F1⟩ := d2'.form
    have hL1 : (c.zip (R.2.map Sd.v)).map (·.2) = R.2.map Sd.v := List.map_snd_zip (by rw [List.length_map, hc]; exact Nat.le_refl _)
    have hE1 : R.1.map Sd.v = (R.1.map Sd.b).map zv := by
      rw [List.map_map]
      refine List.map_congr_left fun s hs' => V.ext' (fun i => ?_) (fun i => rfl)
      show s.x.testBit i = false
      rw [d1' s hs', Nat.zero_testBit]
    have hS : (l.map eqSide).map Sd.v = l.map sv := by rw [List.map_map]; rfl
    have A1 : Alg.Alike (l.map sv) ((c.zip (R.2.map Sd.v)).map (·.2) ++ (R.1.map Sd.b).map zv) := by
      rw [hL1, ← hE1, ← hS]
      refine d2'.alike.trans (Alg.Alike.of (fun v hv => Span.mem ?_) (fun v hv => Span.mem ?_))
      · rw [List.map_append] at hv; rcases List.mem_append.1 hv with h | h
        · exact List.mem_append_right _ h
        · exact List.mem_append_left _ h
      · rw [List.map_append]; rcases List.mem_append.1 hv with h | h
        · exact List.mem_append_right _ h
        · exact List.mem_append_left _ h
    have z1 : ∀ b ∈ R.1.map Sd.b, b.size = sz := fun b hb => by
      obtain ⟨s, hs', rfl⟩ := List.mem_map.1 hb
      exact d2'.size s (List.mem_append_left _ hs')
    have n1 : R.1.any (nzB (zeroB sz)) = (R.1.map Sd.b).any (nzT (zeroB sz)) := by rw [List.any_map]; rfl
    -- the reference's side
    have H := redR_spec hrow
    obtain ⟨Q, hQ⟩ : ∃ Q, Q = redR n l := ⟨_, rfl⟩
    rw [← hQ] at H ⊢
    clear hQ
    have hL2 : (Q.1.map (fv n)).map (·.2) = Q.1.map sv := by rw [List.map_map]; rfl
    have A2 : Alg.Alike (l.map sv) ((Q.1.map (fv n)).map (·.2) ++ Q.2.map zv) := by rw [hL2]; exact H.alike
    have b1 := bad_iff F1 z1 A1
    have b2 := bad_iff H.rd.form H.size A2
    rw [n1]
    by_cases hb : Bad (l.map sv)
    · rw [b1.2 hb, b2.2 hb]; rfl
    · have e1 : (R.1.map Sd.b).any (nzT (zeroB sz)) = false := by
        cases e : (R.1.map Sd.b).any (nzT (zeroB sz)) with
        | false => rfl
        | true => exact absurd (b1.1 e) hb
      have e2 : Q.2.any (nzT (zeroB sz)) = false := by
        cases e : Q.2.any (nzT (zeroB sz)) with
        | false => rfl
        | true => exact absurd (b2.1 e) hb
      rw [e1, e2, if_neg (by decide), if_neg (by decide)]
      refine Prod.ext ?_ rfl
      show R.2.foldl putO (List.replicate n ⟨#[]⟩) = (List.range n).map (fun i : Nat => pickB Q.1 (i : Int))
      refine List.ext_getElem (by rw [outs_length, List.length_replicate, List.length_map, List.length_range]) fun i hi1 hi2 => ?_
      have hi : i < n := by rw [List.length_map, List.length_range] at hi2; exact hi2
      rw [List.getElem_map, List.getElem_range]
      have hgd : (R.2.foldl putO (List.replicate n ⟨#[]⟩))[i] = (R.2.foldl putO (List.replicate n ⟨#[]⟩)).getD i ByteArray.empty := by rw [List.getD_eq_getElem?_getD, List.getElem?_eq_getElem hi1]; rfl
      rw [hgd]
      have m1 : ∀ s ∈ R.2, Span (l.map sv) s.v ∧ s.b.size = sz ∧ (oneX s.x (i : Int) = true ↔ ∀ j, s.v.x j = (j == i)) := fun s hs' =>
        ⟨(A1 _).2 (Span.mem (List.mem_append_left _ (by rw [hL1]; exact List.mem_map_of_mem hs'))), d2'.size s (List.mem_append_right _ hs'), oneX_iff p2N (d2'.high s (List.mem_append_right _ hs')) hi⟩
      have m2 : ∀ s ∈ Q.1, Span (l.map sv) (sv s) ∧ s.f1.size = sz ∧ ((s.f0.length = 1 ∧ rd s.f0 0 = (i : Int)) ↔ ∀ j, (sv s).x j = (j == i)) := fun s hs' =>
        ⟨(A2 _).2 (Span.mem (List.mem_append_left _ (by rw [hL2]; exact List.mem_map_of_mem hs'))), (H.rd.row s hs').1.size, one_iff (H.rd.row s hs').1 i⟩
      by_cases hex : ∃ v, Span (l.map sv) v ∧ ∀ j, v.x j = (j == i)
      · obtain ⟨v, hv, hx⟩ := hex
        have g1 := one_of_span F1 z1 A1 hb hv i hx
        rw [hL1] at g1
        obtain ⟨s, hs', rfl⟩ := List.mem_map.1 g1
        have g2 := one_of_span H.rd.form H.size A2 hb hv i hx
        rw [hL2] at g2
        obtain ⟨t, ht, hts⟩ := List.mem_map.1 g2
        have hst : t.f1 = s.b := bytes_ext ((m2 t ht).2.1.trans (m1 s hs').2.1.symm) (fun j => congrArg (fun u : V => u.b j) hts)
        have same : ∀ u, Span (l.map sv) u → (∀ j, u.x j = (j == i)) → ∀ j, u.b j = s.v.b j := fun u hu hux => span_uniq hb hu hv (fun j => by rw [hux, hx])
        rw [outs_at (fun b => b) s.b ByteArray.empty i R.2 _ (by rw [List.length_replicate]; exact hi) (fun s2 hs2 ho2 => bytes_ext ((m1 s2 hs2).2.1.trans (m1 s hs').2.1.symm) (same s2.v (m1 s2 hs2).1 ((m1 s2 hs2).2.2.1 ho2))),
          if_pos (List.any_eq_true.2 ⟨s, hs', (m1 s hs').2.2.2 hx⟩)]
        refine (pick_some (fun t2 ht2 ho2 => ?_) ⟨t, ht, (m2 t ht).2.2.2 (fun j => by rw [hts]; exact hx j)⟩).symm
        exact bytes_ext ((m2 t2 ht2).2.1.trans (m1 s hs').2.1.symm) (same (sv t2) (m2 t2 ht2).1 ((m2 t2 ht2).2.2.1 ho2))
      · rw [outs_at (fun b => b) ⟨#[]⟩ ByteArray.empty i R.2 _ (by rw [List.length_replicate]; exact hi) (fun s2 hs2 ho2 => absurd ⟨s2.v, (m1 s2 hs2).1, (m1 s2 hs2).2.2.1 ho2⟩ hex),
          pick_none (fun t ht ho2 => hex ⟨sv t, (m2 t ht).1, (m2 t ht).2.2.1 ho2⟩)]
        split
        · rfl
        · rw [List.getD_eq_getElem?_getD, List.getElem?_replicate, if_pos hi]; rfl
end Go.Proofs.Ytgcgnnblgimegaa.P
