/- What the claim on this statement wants of the text YtgcgnnblgimegaaAlg. Not trusted: Lean checks it. -/
namespace Go.Proofs.Ytgcgnnblgimegaa.Alg
/-- A row: which numbers, and what they come to (byte by byte). -/
structure V where
  x : Nat → Bool
  b : Nat → UInt8
theorem V.ext' {u v : V} (h : ∀ i, u.x i = v.x i) (k : ∀ i, u.b i = v.b i) : u = v := by
  cases u; cases v
  simp only [V.mk.injEq]
  exact ⟨funext h, funext k⟩
def V.add (u v : V) : V := ⟨fun i => Bool.xor (u.x i) (v.x i), fun i => u.b i ^^^ v.b i⟩
def V.zero : V := ⟨fun _ => false, fun _ => 0⟩
instance : Add V := ⟨V.add⟩
instance : OfNat V 0 := ⟨V.zero⟩
theorem add_x (u v : V) (i : Nat) : (u + v).x i = Bool.xor (u.x i) (v.x i) := rfl
theorem add_b (u v : V) (i : Nat) : (u + v).b i = u.b i ^^^ v.b i := rfl
theorem zero_x (i : Nat) : (0 : V).x i = false := rfl
theorem zero_b (i : Nat) : (0 : V).b i = 0 := rfl
theorem add_comm (u v : V) : u + v = v + u := V.ext' (fun i => by simp [add_x, Bool.xor_comm]) (fun i => by simp [add_b, UInt8.xor_comm])
theorem add_assoc (u v w : V) : u + v + w = u + (v + w) := V.ext' (fun i => by simp [add_x]) (fun i => by simp [add_b, UInt8.xor_assoc])
theorem add_zero (u : V) : u + 0 = u := V.ext' (fun i => by simp [add_x, zero_x]) (fun i => by simp [add_b, zero_b])
theorem zero_add (u : V) : 0 + u = u := by rw [add_comm, add_zero]
theorem add_self (u : V) : u + u = 0 := V.ext' (fun i => by simp [add_x, zero_x]) (fun i => by simp [add_b, zero_b])
theorem add_cancel (u v : V) : u + (u + v) = v := by rw [← add_assoc, add_self, zero_add]
theorem add_left (u v w : V) : u + (v + w) = v + (u + w) := by rw [← add_assoc, add_comm u v, add_assoc]
/-- What rows span. -/
inductive Span (l : List V) : V → Prop
  | zero : Span l 0
  | add {s v : V} : s ∈ l → Span l v → Span l (s + v)
theorem Span.mem {l : List V} {s : V} (h : s ∈ l) : Span l s := by
  have := Span.add h Span.zero
  rwa [add_zero] at this
theorem Span.sum {l : List V} {u v : V} (h : Span l u) (k : Span l v) : Span l (u + v) := by
  induction h with
  | zero => rwa [zero_add]
  | add hs _ ih => rw [add_assoc]; exact Span.add hs ih
theorem Span.of {l m : List V} (h : ∀ s ∈ l, Span m s) {v : V} (k : Span l v) : Span m v := by
  induction k with
  | zero => exact Span.zero
  | add hs _ ih => exact (h _ hs).sum ih
theorem Span.mono {l m : List V} (h : ∀ s ∈ l, s ∈ m) {v : V} (k : Span l v) : Span m v := k.of fun s hs => Span.mem (h s hs)
/-- Two lists span the same. -/
def Alike (l m : List V) : Prop := ∀ v, Span l v ↔ Span m v
theorem Alike.refl (l : List V) : Alike l l := fun _ => Iff.rfl
theorem Alike.symm {l m : List V} (h : Alike l m) : Alike m l := fun v => (h v).symm
theorem Alike.trans {l m n : List V} (h : Alike l m) (k : Alike m n) : Alike l n := fun v => (h v).trans (k v)
theorem Alike.of {l m : List V} (h : ∀ s ∈ l, Span m s) (k : ∀ s ∈ m, Span l s) : Alike l m := fun _ => ⟨fun x => x.of h, fun x => x.of k⟩
/-- Rows with their pivots: each row has its pivot, no other row has it. -/
structure Form (L : List (Nat × V)) : Prop where
  own : ∀ a ∈ L, a.2.x a.1 = true
  apart : L.Pairwise fun a b => a.2.x b.1 = false ∧ b.2.x a.1 = false
def lin (f : Nat → Bool) : List (Nat × V) → V
  | [] => 0
  | a :: L => if f a.1 then a.2 + lin f L else lin f L
theorem lin_xor (f g : Nat → Bool) (L : List (Nat × V)) : lin (fun i => Bool.xor (f i) (g i)) L = lin f L + lin g L := by
  induction L with
  | nil => exact (add_zero 0).symm
  | cons a L ih =>
    unfold lin
    cases hf : f a.1 <;> cases hg : g a.1 <;> simp [ih]
    · rw [add_left]
    · rw [add_assoc]
    · rw [add_assoc, add_left (lin f L), add_cancel]
theorem lin_false (f : Nat → Bool) (L : List (Nat × V)) (h : ∀ a ∈ L, f a.1 = false) : lin f L = 0 := by
  induction L with
  | nil => rfl
  | cons a L ih =>
    unfold lin
    rw [h a List.mem_cons_self]
    exact ih fun b hb => h b (List.mem_cons_of_mem _ hb)
theorem lin_mem {L : List (Nat × V)} (F : Form L) {a : Nat × V} (ha : a ∈ L) : lin a.2.x L = a.2 := by
  induction L with
  | nil => cases ha
  | cons c L ih =>
    have hp := List.pairwise_cons.1 F.apart
    unfold lin
    rcases List.mem_cons.1 ha with rfl | h
    · rw [F.own a List.mem_cons_self, lin_false _ _ (fun b hb => (hp.1 b hb).1)]
      simp [add_zero]
    · rw [(hp.1 a h).2]
      exact ih ⟨fun b hb => F.own b (List.mem_cons_of_mem _ hb), hp.2⟩ h
theorem Form.off {L : List (Nat × V)} (F : Form L) {a c : Nat × V} (ha : a ∈ L) (hc : c ∈ L) (e : c.1 ≠ a.1) : a.2.x c.1 = false := by
  induction L with
  | nil => cases ha
  | cons d L ih =>
    have hp := List.pairwise_cons.1 F.apart
    rcases List.mem_cons.1 ha with rfl | ha'
    · rcases List.mem_cons.1 hc with rfl | hc'
      · exact absurd rfl e
      · exact (hp.1 c hc').1
    · rcases List.mem_cons.1 hc with rfl | hc'
      · exact (hp.1 a ha').2
      · exact ih ⟨fun b hb => F.own b (List.mem_cons_of_mem _ hb), hp.2⟩ ha' hc'
/-- What pivot rows span is told by its bits at the pivots. -/
theorem lin_span {L : List (Nat × V)} (F : Form L) {v : V} (h : Span (L.map (·.2)) v) : lin v.x L = v := by
  induction h with
  | zero => exact lin_false _ _ fun _ _ => rfl
  | @add s v hs _ ih =>
    obtain ⟨a, ha, rfl⟩ := List.mem_map.1 hs
    have : (a.2 + v).x = fun i => Bool.xor (a.2.x i) (v.x i) := rfl
    rw [this, lin_xor, ih, lin_mem F ha]
theorem span_zeros {l : List V} {v : V} {e : List V} (h : Span (l ++ e) v) (he : ∀ s ∈ e, s = 0) : Span l v := by
  refine h.of fun s hs => ?_
  rcases List.mem_append.1 hs with h | h
  · exact Span.mem h
  · rw [he s h]; exact Span.zero
/-- No pivot: nothing. -/
theorem span_none {L : List (Nat × V)} (F : Form L) {v : V} (h : Span (L.map (·.2)) v) (hv : ∀ a ∈ L, v.x a.1 = false) : v = 0 := by
  rw [← lin_span F h]
  exact lin_false _ _ hv
/-- ONE NUMBER ALONE is spanned just where it is a row. -/
theorem span_one {L : List (Nat × V)} (F : Form L) {v : V} (h : Span (L.map (·.2)) v) (i : Nat) (hv : ∀ j, v.x j = (j == i)) : v ∈ L.map (·.2) := by
  by_cases hp : ∃ a ∈ L, a.1 = i
  · obtain ⟨a, ha, rfl⟩ := hp
    have hz : v + a.2 = 0 := by
      refine span_none F (h.sum (Span.mem (List.mem_map_of_mem ha))) fun c hc => ?_
      rw [add_x, hv c.1]
      by_cases e : c.1 = a.1
      · rw [e, F.own a ha]; simp
      · have : a.2.x c.1 = false := F.off ha hc e
        rw [this]; simp [e]
    have : v = a.2 := by
      have := congrArg (· + a.2) hz
      simp only [add_assoc, add_self, add_zero, zero_add] at this
      exact this
    rw [this]; exact List.mem_map_of_mem ha
  · have := span_none F h fun a ha => by
      rw [hv]; simp; exact fun e => hp ⟨a, ha, e⟩
    have := congrArg (fun u => u.x i) this
    simp [hv, zero_x] at this
end Go.Proofs.Ytgcgnnblgimegaa.Alg
