/- What the claim on this statement wants of the text YtgcgnnblgimegaaRed. Not trusted: Lean checks it. -/
import Derived.Test.YtgcgnnblgimegaaK2Alg
namespace Go.Proofs.Ytgcgnnblgimegaa.Red
open Go.Proofs.Ytgcgnnblgimegaa.Alg
/-- The bytes of two texts of one length, added up; else nothing. -/
def xorB (a b : ByteArray) : ByteArray := if a.size = b.size then ⟨Array.ofFn (n := a.size) fun i => a.data[i.1]?.getD 0 ^^^ b.data[i.1]?.getD 0⟩ else ByteArray.empty
def byteAt (a : ByteArray) (i : Nat) : UInt8 := a.data[i]?.getD 0
theorem xorB_size {a b : ByteArray} {n : Nat} (h : a.size = n) (k : b.size = n) : (xorB a b).size = n := by
  unfold xorB
  rw [if_pos (h.trans k.symm)]
  show (Array.ofFn (n := a.size) _).size = n
  rw [Array.size_ofFn]
  exact h
theorem xorB_at {a b : ByteArray} (h : a.size = b.size) (i : Nat) : byteAt (xorB a b) i = byteAt a i ^^^ byteAt b i := by
  unfold xorB byteAt
  rw [if_pos h]
  show ((Array.ofFn (n := a.size) fun i => a.data[i.1]?.getD 0 ^^^ b.data[i.1]?.getD 0)[i]?).getD 0 = _
  by_cases hi : i < a.size
  · rw [Array.getElem?_ofFn, dif_pos hi]
    rfl
  · have h1 : a.data[i]? = none := Array.getElem?_eq_none (Nat.le_of_not_lt hi)
    have h2 : b.data[i]? = none := Array.getElem?_eq_none (show b.size ≤ i by omega)
    rw [h1, h2, Array.getElem?_ofFn, dif_neg hi]
    rfl
theorem bytes_ext {a b : ByteArray} (h : a.size = b.size) (k : ∀ i, byteAt a i = byteAt b i) : a = b := by
  cases a with | mk a => cases b with | mk b =>
  congr 1
  refine Array.ext h fun i h1 h2 => ?_
  have := k i
  simp only [byteAt] at this
  rwa [Array.getElem?_eq_getElem h1, Array.getElem?_eq_getElem h2] at this
/-- A row: its numbers as bits, its text. -/
structure Sd where
  x : Nat
  b : ByteArray
def Sd.plus (s t : Sd) : Sd := ⟨s.x ^^^ t.x, xorB s.b t.b⟩
def Sd.v (s : Sd) : V := ⟨fun i => s.x.testBit i, byteAt s.b⟩
theorem plus_v {s t : Sd} (h : s.b.size = t.b.size) : (s.plus t).v = s.v + t.v := V.ext' (fun i => by simp [Sd.plus, Sd.v, add_x, Nat.testBit_xor]) (fun i => by
  show byteAt (xorB s.b t.b) i = byteAt s.b i ^^^ byteAt t.b i
  exact xorB_at h i)
def clr (i : Nat) (p : Sd) (l : List Sd) : List Sd := l.map fun s => if s.x.testBit i then s.plus p else s
def step (i : Nat) (l out : List Sd) : List Sd × List Sd :=
  match l.findIdx? (fun s => s.x.testBit i) with
  | none => (l, out)
  | some k => (clr i (l.getD k ⟨0, ByteArray.empty⟩) (l.eraseIdx k), clr i (l.getD k ⟨0, ByteArray.empty⟩) out ++ [l.getD k ⟨0, ByteArray.empty⟩])
def run : (d i : Nat) → List Sd → List Sd → List Sd × List Sd
  | 0, _, l, out => (l, out)
  | d + 1, i, l, out => run d (i + 1) (step i l out).1 (step i l out).2
/-- What holds when the numbers below i have been done. -/
structure Inv (n i : Nat) (sz : Nat) (l0 l out : List Sd) : Prop where
  size : ∀ s ∈ l ++ out, s.b.size = sz
  low : ∀ s ∈ l, ∀ j, j < i → s.x.testBit j = false
  high : ∀ s ∈ l ++ out, ∀ j, n ≤ j → s.x.testBit j = false
  alike : Alike (l0.map Sd.v) ((l ++ out).map Sd.v)
  form : ∃ c : List Nat, c.length = out.length ∧ (∀ j ∈ c, j < i) ∧ Form (c.zip (out.map Sd.v))
theorem clr_mem {i : Nat} {p s : Sd} {l : List Sd} (h : s ∈ clr i p l) : ∃ t ∈ l, (t.x.testBit i = true ∧ s = t.plus p) ∨ (t.x.testBit i = false ∧ s = t) := by
  obtain ⟨t, ht, rfl⟩ := List.mem_map.1 h
  refine ⟨t, ht, ?_⟩
  cases hb : t.x.testBit i <;> simp
theorem Inv.start {n sz : Nat} {l : List Sd} (hs : ∀ s ∈ l, s.b.size = sz) (hx : ∀ s ∈ l, ∀ j, n ≤ j → s.x.testBit j = false) : Inv n 0 sz l l [] where
  size := by simpa using hs
  low := fun _ _ j hj => absurd hj (by omega)
  high := by simpa using hx
  alike := by simpa using Alike.refl _
  form := ⟨[], rfl, by simp, ⟨by simp, by simp⟩⟩
theorem Inv.next {n i sz : Nat} {l0 l out : List Sd} (h : Inv n i sz l0 l out) : Inv n (i + 1) sz l0 (step i l out).1 (step i l out).2 := by
  unfold step
  cases hk : l.findIdx? (fun s => s.x.testBit i) with
  | none =>
    have hn := List.findIdx?_eq_none_iff.1 hk
    obtain ⟨c, hc, hcl, F⟩ := h.form
    refine ⟨h.size, fun s hs j hj => ?_, h.high, h.alike, c, hc, fun j hj => by have := hcl j hj; omega, F⟩
    by_cases e : j = i
    · subst e; simpa using hn s hs
    · exact h.low s hs j (by omega)
  | some k =>
    obtain ⟨hkl, hp, _⟩ := List.findIdx?_eq_some_iff_getElem.1 hk
    have hg : l.getD k ⟨0, ByteArray.empty⟩ = l[k] := by simp [List.getD, hkl]
    dsimp only
    rw [hg]
    generalize hP : l[k] = p
    rw [hP] at hp
    have hpl : p ∈ l := hP ▸ List.getElem_mem hkl
    have hpz : p.b.size = sz := h.size p (List.mem_append_left _ hpl)
    have er : ∀ s ∈ l.eraseIdx k, s ∈ l := fun s hs => List.mem_of_mem_eraseIdx hs
    have back : ∀ s ∈ l, s = p ∨ s ∈ l.eraseIdx k := by
      intro s hs
      obtain ⟨j, hj, rfl⟩ := List.getElem_of_mem hs
      by_cases e : j = k
      · subst e; exact .inl hP
      · exact .inr (List.mem_eraseIdx_iff_getElem.2 ⟨j, hj, e, rfl⟩)
    have zb : ∀ t : Sd, t ∈ l ++ out → (t.plus p).b.size = sz := fun t ht => xorB_size (h.size t ht) hpz
    have pv : ∀ t : Sd, t ∈ l ++ out → (t.plus p).v = t.v + p.v := fun t ht => plus_v ((h.size t ht).trans hpz.symm)
    -- whatever stands there now comes of what stood there
    have src : ∀ s, s ∈ clr i p (l.eraseIdx k) ++ (clr i p out ++ [p]) → ∃ t ∈ l ++ out, s = t ∨ s = t.plus p := by
      intro s hs
      rcases List.mem_append.1 hs with hs | hs
      · obtain ⟨t, ht, ⟨_, rfl⟩ | ⟨_, rfl⟩⟩ := clr_mem hs
        · exact ⟨t, List.mem_append_left _ (er t ht), .inr rfl⟩
        · exact ⟨_, List.mem_append_left _ (er _ ht), .inl rfl⟩
      · rcases List.mem_append.1 hs with hs | hs
        · obtain ⟨t, ht, ⟨_, rfl⟩ | ⟨_, rfl⟩⟩ := clr_mem hs
          · exact ⟨t, List.mem_append_right _ ht, .inr rfl⟩
          · exact ⟨_, List.mem_append_right _ ht, .inl rfl⟩
        · rw [List.mem_singleton.1 hs]; exact ⟨p, List.mem_append_left _ hpl, .inl rfl⟩
    refine ⟨?_, ?_, ?_, ?_, ?_⟩
    · intro s hs
      obtain ⟨t, ht, rfl | rfl⟩ := src s hs
      · exact h.size _ ht
      · exact zb t ht
    · intro s hs j hj
      obtain ⟨t, ht, ⟨hb, rfl⟩ | ⟨hb, rfl⟩⟩ := clr_mem hs
      · show (t.x ^^^ p.x).testBit j = false
        rw [Nat.testBit_xor]
        by_cases e : j = i
        · subst e; rw [hb, hp]; rfl
        · rw [h.low t (er t ht) j (by omega), h.low p hpl j (by omega)]; rfl
      · by_cases e : j = i
        · subst e; exact hb
        · exact h.low _ (er _ ht) j (by omega)
    · intro s hs j hj
      obtain ⟨t, ht, rfl | rfl⟩ := src s hs
      · exact h.high _ ht j hj
      · show (t.x ^^^ p.x).testBit j = false
        rw [Nat.testBit_xor, h.high t ht j hj, h.high p (List.mem_append_left _ hpl) j hj]; rfl
    · refine h.alike.trans (Alike.of ?_ ?_)
      · intro s hs
        obtain ⟨t, ht, rfl⟩ := List.mem_map.1 hs
        have hpm : Span ((clr i p (l.eraseIdx k) ++ (clr i p out ++ [p])).map Sd.v) p.v := Span.mem (List.mem_map_of_mem (by simp))
        have one : (∀ u, u = (if t.x.testBit i then t.plus p else t) → u ∈ clr i p (l.eraseIdx k) ++ (clr i p out ++ [p])) → Span ((clr i p (l.eraseIdx k) ++ (clr i p out ++ [p])).map Sd.v) t.v := by
          intro hu
          cases hb : t.x.testBit i with
          | false => exact Span.mem (List.mem_map_of_mem (hu t (by simp [hb])))
          | true =>
            have := (Span.mem (List.mem_map_of_mem (f := Sd.v) (hu (t.plus p) (by simp [hb])))).sum hpm
            rw [pv t ht, add_assoc, add_self, add_zero] at this
            exact this
        rcases List.mem_append.1 ht with ht' | ht'
        · rcases back t ht' with rfl | he
          · exact hpm
          · exact one fun u hu => List.mem_append_left _ (List.mem_map.2 ⟨t, he, hu.symm⟩)
        · exact one fun u hu => List.mem_append_right _ (List.mem_append_left _ (List.mem_map.2 ⟨t, ht', hu.symm⟩))
      · intro s hs
        obtain ⟨u, hu, rfl⟩ := List.mem_map.1 hs
        obtain ⟨t, ht, rfl | rfl⟩ := src u hu
        · exact Span.mem (List.mem_map_of_mem ht)
        · rw [pv t ht]
          exact (Span.mem (List.mem_map_of_mem ht)).sum (Span.mem (List.mem_map_of_mem (List.mem_append_left _ hpl)))
    · obtain ⟨c, hc, hcl, F⟩ := h.form
      have hz : (c ++ [i]).zip ((clr i p out ++ [p]).map Sd.v) = (c.zip (out.map Sd.v)).map (fun a => (a.1, if a.2.x i then a.2 + p.v else a.2)) ++ [(i, p.v)] := by
        rw [List.map_append, List.zip_append (by simp [hc, clr])]
        congr 1
        have hm : (clr i p out).map Sd.v = (out.map Sd.v).map (fun u => if u.x i then u + p.v else u) := by
          unfold clr
          rw [List.map_map, List.map_map]
          refine List.map_congr_left fun t ht => ?_
          show (if t.x.testBit i then t.plus p else t).v = if t.v.x i then t.v + p.v else t.v
          show (if t.x.testBit i then t.plus p else t).v = if t.x.testBit i then t.v + p.v else t.v
          split
          · exact pv t (List.mem_append_right _ ht)
          · rfl
        rw [hm, List.zip_map_right]
        rfl
      refine ⟨c ++ [i], by simp [hc, clr], fun j hj => ?_, ?_⟩
      · rcases List.mem_append.1 hj with hj | hj
        · have := hcl j hj; omega
        · rw [List.mem_singleton.1 hj]; omega
      · rw [hz]
        have hlow : ∀ a ∈ c.zip (out.map Sd.v), a.1 < i := fun a ha => hcl _ (List.of_mem_zip (a := a.1) (b := a.2) ha).1
        have hpb : ∀ a ∈ c.zip (out.map Sd.v), p.v.x a.1 = false := fun a ha => h.low p hpl _ (hlow a ha)
        have keep : ∀ (a : Nat × V) (j : Nat), p.v.x j = false → (if a.2.x i then a.2 + p.v else a.2).x j = a.2.x j := by
          intro a j hj
          split
          · rw [add_x, hj]; simp
          · rfl
        constructor
        · intro a ha
          rcases List.mem_append.1 ha with ha | ha
          · obtain ⟨a0, ha0, rfl⟩ := List.mem_map.1 ha
            dsimp only
            rw [keep a0 _ (hpb a0 ha0)]
            exact F.own a0 ha0
          · rw [List.mem_singleton.1 ha]; exact hp
        · rw [List.pairwise_append]
          refine ⟨?_, by simp, ?_⟩
          · rw [List.pairwise_map]
            have hboth := F.apart
            refine List.Pairwise.imp_of_mem (fun {a b} ha hb hab => ?_) hboth
            dsimp only
            rw [keep a _ (hpb b hb), keep b _ (hpb a ha)]
            exact hab
          · intro a ha b hb
            rw [List.mem_singleton.1 hb]
            obtain ⟨a0, ha0, rfl⟩ := List.mem_map.1 ha
            dsimp only
            refine ⟨?_, hpb a0 ha0⟩
            cases hx : a0.2.x i with
            | false => simpa using hx
            | true =>
              show (a0.2 + p.v).x i = false
              rw [add_x, hx]
              have : p.v.x i = true := hp
              rw [this]; rfl
theorem run_inv {n sz : Nat} {l0 : List Sd} : ∀ (d i : Nat) (l out : List Sd), Inv n i sz l0 l out → Inv n (i + d) sz l0 (run d i l out).1 (run d i l out).2
  | 0, _, _, _, h => h
  | d + 1, i, l, out, h => by
    have := run_inv d (i + 1) _ _ h.next
    rw [show i + (d + 1) = i + 1 + d by omega]
    exact this
theorem testBit_zero_of {x : Nat} (h : ∀ j, x.testBit j = false) : x = 0 := Nat.eq_of_testBit_eq fun i => by rw [h, Nat.zero_testBit]
/-- WHAT ELIMINATION LEAVES: rows in pivot form, and rows of no numbers; together they span what was there. -/
theorem run_done {n sz : Nat} {l : List Sd} (hs : ∀ s ∈ l, s.b.size = sz) (hx : ∀ s ∈ l, ∀ j, n ≤ j → s.x.testBit j = false) :
    (∀ s ∈ (run n 0 l []).1, s.x = 0) ∧ Inv n n sz l (run n 0 l []).1 (run n 0 l []).2 := by
  have h := run_inv n 0 l [] (Inv.start hs hx)
  rw [Nat.zero_add] at h
  refine ⟨fun s hs => testBit_zero_of fun j => ?_, h⟩
  by_cases hj : j < n
  · exact h.low s hs j hj
  · exact h.high s (List.mem_append_left _ hs) j (by omega)
end Go.Proofs.Ytgcgnnblgimegaa.Red
