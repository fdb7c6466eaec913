/- What the claim on this statement wants of the text YtaomblcecjaedaaBindsPure. Not trusted: Lean checks it. -/
import Derived.Test.YtaomblcecjaedaaK4ProvesPure
import Derived.Test.YtaomblcecjaedaaK4ShaRef
import Derived.Test.YtaomblcecjaedaaK4Px17
import Derived.Test.YtaomblcecjaedaaK4Px18
namespace Go.Proofs.Ytaomblcecjaedaa.P
open Go.RowKit Go.Proofs.YtaomblcecjaedaaW.PrintWords
theorem toList_inj {a b : ByteArray} (h : a.toList = b.toList) : a = b := by
  rw [ByteArray.toList_eq, ByteArray.toList_eq] at h
  cases a; cases b
  simp only [ByteArray.mk.injEq]
  exact Array.toList_inj.1 h
theorem kt_inj {a b a' b' : ByteArray} (h : kt a b = kt a' b') (ha : a.size = a'.size) : a = a' ∧ b = b' := by
  unfold kt at h
  have h1 := congrArg (fun z : ByteArray => z.data.toList) h
  simp only [ByteArray.data_append, Array.toList_append, List.append_assoc] at h1
  have h2 := List.append_cancel_left h1
  obtain ⟨h3, h4⟩ := List.append_inj h2 (by rw [data_length, data_length]; exact ha)
  exact ⟨toList_inj (by rw [ByteArray.toList_eq, ByteArray.toList_eq]; exact h3), toList_inj (by rw [ByteArray.toList_eq, ByteArray.toList_eq]; exact h4)⟩
theorem lf_inj {a a' : ByteArray} (h : lf a = lf a') : a = a' := by
  unfold lf at h
  have h1 := congrArg (fun z : ByteArray => z.data.toList) h
  simp only [ByteArray.data_append, Array.toList_append] at h1
  exact toList_inj (by rw [ByteArray.toList_eq, ByteArray.toList_eq]; exact List.append_cancel_left h1)
theorem kt_32 {a b : ByteArray} (ha : a.size = 32) (hb : b.size = 32) : (SHA (kt a b)).size = 32 := SHA_32 (by rw [kt_size]; omega)
/-- TWO CLIMBS TO ONE ROOT: they began with one digest, or two unlike texts of theirs have one sum. -/
theorem collide : ∀ (ss : List Bool) (d d' : ByteArray) (ps ps' : List ByteArray), ps.length = ss.length → ps'.length = ss.length → d.size = 32 → d'.size = 32 → (∀ p ∈ ps, p.size = 32) → (∀ p ∈ ps', p.size = 32) →
    (cl SHA ss d ps).1 = (cl SHA ss d' ps').1 → d = d' ∨ ∃ t ∈ (cl SHA ss d ps).2, ∃ t' ∈ (cl SHA ss d' ps').2, t ≠ t' ∧ SHA t = SHA t'
  | [], d, d', ps, ps', _, _, _, _, _, _, h => by
    left
    cases ps <;> cases ps' <;> simpa [cl] using h
  | s :: ss, d, d', [], _, h, _, _, _, _, _, _ => by simp at h
  | s :: ss, d, d', _ :: _, [], _, h, _, _, _, _, _ => by simp at h
  | s :: ss, d, d', p :: ps, p' :: ps', hl, hl', hd, hd', hp, hp', h => by
    have hp0 := hp p (by simp)
    have hp0' := hp' p' (by simp)
    simp only [cl] at h ⊢
    have hs1 : (SHA (if s = true then kt p d else kt d p)).size = 32 := by split <;> exact kt_32 (by assumption) (by assumption)
    have hs2 : (SHA (if s = true then kt p' d' else kt d' p')).size = 32 := by split <;> exact kt_32 (by assumption) (by assumption)
    rcases collide ss _ _ ps ps' (by simpa using hl) (by simpa using hl') hs1 hs2 (fun q hq => hp q (by simp [hq])) (fun q hq => hp' q (by simp [hq])) h with he | ⟨t, ht, t', ht', hne, heq⟩
    · by_cases hk : (if s = true then kt p d else kt d p) = (if s = true then kt p' d' else kt d' p')
      · left
        cases s with
        | true => exact (kt_inj hk (by omega)).2
        | false => exact (kt_inj hk (by omega)).1
      · exact .inr ⟨_, List.mem_cons_self, _, List.mem_cons_self, hk, he⟩
    · exact .inr ⟨t, List.mem_cons_of_mem _ ht, t', List.mem_cons_of_mem _ ht', hne, heq⟩
/-- What the search answers, from some pair on: two unlike texts of one sum, or none is left. -/
structure Wit (r : ByteArray × ByteArray × Bool) : Prop where
  ne : r.2.2 = true → r.1 ≠ r.2.1
  eq : r.2.2 = true → SHA r.1 = SHA r.2.1
def NoPair (x : List ByteArray) (i j : Nat) : Prop := SHA (x.getD i ByteArray.empty) = SHA (x.getD j ByteArray.empty) → x.getD i ByteArray.empty = x.getD j ByteArray.empty
theorem rdSHA (x : List ByteArray) (i : Nat) (h : i < x.length) : rdOf ByteArray.empty (x.map SHA) (i : Int) = SHA (x.getD i ByteArray.empty) := by
  rw [rdOf_nat]
  simp [List.getD_eq_getElem?_getD, h]
theorem wit_l2 (x : List ByteArray) (hx : x.length ≤ 1000) (i : Nat) (hi : i < x.length) (r : ByteArray × ByteArray × Bool) (hr : EV (fun k => merkle_Witness.l1 k x (x.map SHA) (x.length : Int) ((i + 1 : Nat) : Int)) r) (hw : Wit r) :
    ∀ (m j : Nat), j + m = x.length → ∃ r', EV (fun k => merkle_Witness.l2 k x (x.map SHA) (i : Int) (j : Int) (x.length : Int) (i : Int)) r' ∧ Wit r' ∧ (r'.2.2 = false → r = r' ∧ ∀ j', j ≤ j' → j' < x.length → NoPair x i j')
  | 0, j, h => by
    refine ⟨r, EV.succ ?_, hw, fun _ => ⟨rfl, fun j' h1 h2 => by omega⟩⟩
    simp only [merkle_Witness.l2]
    refine EV.neg (by omega) ?_
    rw [w64 _ (by omega) (by omega), show (i : Int) + 1 = ((i + 1 : Nat) : Int) from by omega]
    exact hr
  | m + 1, j, h => by
    obtain ⟨r1, e1, w1, f1⟩ := wit_l2 x hx i hi r hr hw m (j + 1) (by omega)
    have hml : (x.map SHA).length = x.length := by simp
    have step : ∀ r', (EV (fun k => if (SHA (x.getD i ByteArray.empty)).toList = (SHA (x.getD j ByteArray.empty)).toList then (if (x.getD i ByteArray.empty).toList = (x.getD j ByteArray.empty).toList then (merkle_Witness.l2 k x (x.map SHA) (i : Int) ((j + 1 : Nat) : Int) (x.length : Int) (i : Int)) else (some (x.getD i ByteArray.empty, x.getD j ByteArray.empty, true))) else (merkle_Witness.l2 k x (x.map SHA) (i : Int) ((j + 1 : Nat) : Int) (x.length : Int) (i : Int))) r') →
        EV (fun k => merkle_Witness.l2 k x (x.map SHA) (i : Int) (j : Int) (x.length : Int) (i : Int)) r' := by
      intro r' h'
      refine EV.succ ?_
      simp only [merkle_Witness.l2]
      rw [rdSHA x i hi, rdSHA x j (by omega), rdOf_nat, rdOf_nat, w64 ((j : Int) + 1) (by omega) (by omega), show (j : Int) + 1 = ((j + 1 : Nat) : Int) from by omega]
      refine EV.pos (by omega) (EV.pos (by omega) (EV.pos (by omega) (EV.pos (by omega) (EV.pos (by omega) ?_))))
      refine EV.of_eq ?_ h'
      intro k
      rw [if_pos (show (i : Int) < (x.length : Int) from by omega)]
    by_cases hs : SHA (x.getD i ByteArray.empty) = SHA (x.getD j ByteArray.empty)
    · by_cases hq : x.getD i ByteArray.empty = x.getD j ByteArray.empty
      · refine ⟨r1, step _ (EV.pos (by rw [hs]) (EV.pos (by rw [hq]) e1)), w1, fun hf => ⟨(f1 hf).1, fun j' h1 h2 => ?_⟩⟩
        by_cases hj : j' = j
        · subst hj; exact fun _ => hq
        · exact (f1 hf).2 j' (by omega) h2
      · exact ⟨_, step _ (EV.pos (by rw [hs]) (EV.neg (fun h => hq (toList_inj h)) (EV.const _))), ⟨fun _ => hq, fun _ => hs⟩, fun h => by cases h⟩
    · refine ⟨r1, step _ (EV.neg (fun h => hs (toList_inj h)) e1), w1, fun hf => ⟨(f1 hf).1, fun j' h1 h2 => ?_⟩⟩
      by_cases hj : j' = j
      · subst hj; exact fun h => absurd h hs
      · exact (f1 hf).2 j' (by omega) h2
theorem wit_l1 (x : List ByteArray) (hx : x.length ≤ 1000) : ∀ (m i : Nat), i + m = x.length → ∃ r, EV (fun k => merkle_Witness.l1 k x (x.map SHA) (x.length : Int) (i : Int)) r ∧ Wit r ∧ (r.2.2 = false → ∀ i' j', i ≤ i' → i' < j' → j' < x.length → NoPair x i' j')
  | 0, i, h => by
    refine ⟨((⟨#[]⟩ : ByteArray), (⟨#[]⟩ : ByteArray), false), EV.succ ?_, ⟨(fun h => nomatch h), (fun h => nomatch h)⟩, fun _ i' j' h1 h2 h3 => by omega⟩
    simp only [merkle_Witness.l1]
    exact EV.neg (by omega) (EV.const _)
  | m + 1, i, h => by
    obtain ⟨r, e, w, f⟩ := wit_l1 x hx m (i + 1) (by omega)
    obtain ⟨r', e', w', f'⟩ := wit_l2 x hx i (by omega) r e w (x.length - (i + 1)) (i + 1) (by omega)
    refine ⟨r', EV.succ ?_, w', fun hf i' j' h1 h2 h3 => ?_⟩
    · simp only [merkle_Witness.l1]
      rw [w64 ((i : Int) + 1) (by omega) (by omega), show (i : Int) + 1 = ((i + 1 : Nat) : Int) from by omega]
      exact EV.pos (by omega) e'
    · obtain ⟨rfl, g⟩ := f' hf
      by_cases hi : i' = i
      · subst hi; exact g j' (by omega) h3
      · exact f hf i' j' (by omega) h2 h3
theorem wit_l0 (x : List ByteArray) (hx : x.length ≤ 1000) (r : ByteArray × ByteArray × Bool) (hr : EV (fun k => merkle_Witness.l1 k x (x.map SHA) (x.length : Int) ((0 : Nat) : Int)) r) :
    ∀ (m i : Nat), i + m = x.length → EV (fun k => merkle_Witness.l0 k x ((x.take i).map SHA) x (x.length : Int) (i : Int)) r
  | 0, i, h => by
    refine EV.succ ?_
    simp only [merkle_Witness.l0]
    refine EV.neg (by omega) ?_
    rw [List.take_of_length_le (by omega)]
    exact hr
  | m + 1, i, h => by
    refine EV.succ ?_
    simp only [merkle_Witness.l0]
    rw [rdOf_nat, w64 ((i : Int) + 1) (by omega) (by omega), show (i : Int) + 1 = ((i + 1 : Nat) : Int) from by omega]
    refine EV.pos (by omega) (EV.pos (by omega) (EV.pos (by omega) ?_))
    show EV (fun k => (some (SHA (x.getD i ByteArray.empty))).bind fun t431 => _) _
    simp only [Option.bind_some]
    refine EV.pos (by rw [List.length_map, List.length_take]; omega) ?_
    have ih := wit_l0 x hx r hr m (i + 1) (by omega)
    have e : (x.take (i + 1)).map SHA = (x.take i).map SHA ++ [SHA (x.getD i ByteArray.empty)] := by
      have e0 : x.take (i + 1) = x.take i ++ [x.getD i ByteArray.empty] := by
        rw [List.take_add_one, List.getElem?_eq_getElem (by omega), List.getD_eq_getElem?_getD, List.getElem?_eq_getElem (by omega)]
        rfl
      rw [e0, List.map_append]
      rfl
    rw [e] at ih
    exact ih
/-- WHERE TWO UNLIKE TEXTS HAVE ONE SUM, the search finds such two. -/
theorem wit_ev (A B : List ByteArray) (hl : (A ++ B).length ≤ 1000) (t t' : ByteArray) (ht : t ∈ A) (ht' : t' ∈ B) (hne : t ≠ t') (heq : SHA t = SHA t') :
    ∃ r, EV (fun k => merkle_Witness.f k (A ++ B)) r ∧ r.2.2 = true ∧ r.1 ≠ r.2.1 ∧ SHA r.1 = SHA r.2.1 := by
  obtain ⟨r, e, w, f⟩ := wit_l1 (A ++ B) hl (A ++ B).length 0 (by omega)
  have hr : EV (fun k => merkle_Witness.f k (A ++ B)) r := by
    unfold merkle_Witness.f
    exact wit_l0 (A ++ B) hl r e (A ++ B).length 0 (by omega)
  have htrue : r.2.2 = true := by
    cases hb : r.2.2 with
    | true => rfl
    | false =>
      obtain ⟨i, hi, rfl⟩ := List.mem_iff_getElem.1 ht
      obtain ⟨j, hj, rfl⟩ := List.mem_iff_getElem.1 ht'
      have h1 := f hb i (A.length + j) (by omega) (by omega) (by rw [List.length_append]; omega)
      have e1 : (A ++ B).getD i ByteArray.empty = A[i] := by simp [List.getD_eq_getElem?_getD, List.getElem?_append, hi]
      have e2 : (A ++ B).getD (A.length + j) ByteArray.empty = B[j] := by simp [List.getD_eq_getElem?_getD, List.getElem?_append, hj]
      unfold NoPair at h1
      rw [e1, e2] at h1
      exact absurd (h1 heq) hne
  exact ⟨r, hr, htrue, w.ne htrue, w.eq htrue⟩
theorem folds_bad (n i : Nat) (d : ByteArray) (ps : List ByteArray) (hi : i < n) (hn : n ≤ 256) (h : ¬ (d.size = 32 ∧ ps.length = (sides 8 n i).length ∧ ∀ p ∈ ps, p.size = 32)) : ∃ e : Int, e ≠ 0 ∧ EV (fun k => merkle_folds.f k (n : Int) (i : Int) d ps) e := by
  unfold merkle_folds.f
  rw [in_ok n i hn hi]
  simp only [Option.bind_some]
  by_cases h1 : d.size = 32
  · by_cases h2 : ps.length = (sides 8 n i).length
    · refine ⟨3, by decide, EV.pos (by first | trivial | rfl) (EV.pos (by omega) (EV.bind (depth_ev n i hi hn) ((EV.const _).to ?_)))⟩
      rw [if_pos (by omega), if_pos]
      simp only [List.any_eq_true, decide_eq_true_eq]
      by_cases h3 : ∃ x, x ∈ ps ∧ ((x.size : Int) ≠ 32)
      · exact h3
      · exact absurd ⟨h1, h2, fun p hp => by
          by_cases hq : p.size = 32
          · exact hq
          · exact absurd ⟨p, hp, by omega⟩ h3⟩ h
    · refine ⟨3, by decide, EV.pos (by first | trivial | rfl) (EV.pos (by omega) (EV.bind (depth_ev n i hi hn) ((EV.const _).to ?_)))⟩
      rw [if_neg (by omega)]
  · exact ⟨1, by decide, EV.pos (by first | trivial | rfl) (EV.neg (by omega) (EV.const _))⟩
theorem check_any (root : ByteArray) (n i : Nat) (d : ByteArray) (ps : List ByteArray) (hi : i < n) (hn : n ≤ 256) :
    ∃ c, EV (fun k => merkle_Check.f k root (n : Int) (i : Int) d ps) c ∧ (c = true → (d.size = 32 ∧ ps.length = (sides 8 n i).length ∧ ∀ p ∈ ps, p.size = 32) ∧ (cl SHA (sides 8 n i) d ps).1 = root) := by
  by_cases h : d.size = 32 ∧ ps.length = (sides 8 n i).length ∧ ∀ p ∈ ps, p.size = 32
  · exact ⟨_, check_ok root n i d ps hi hn h.2.1 h.1 h.2.2, fun hc => ⟨h, toList_inj (by simpa using hc)⟩⟩
  · obtain ⟨e, he, hf⟩ := folds_bad n i d ps hi hn h
    refine ⟨false, ?_, fun hc => by cases hc⟩
    unfold merkle_Check.f merkle_Fold.f
    exact EV.bind (EV.bind hf (EV.neg he (EV.const _))) (EV.neg he (EV.const _))
theorem binds_pure (l0 : List ByteArray) (a1 : Int) (x : ByteArray) (ps : List ByteArray) : ∃ k, mosaiclaw03_MerkleBinds.f k l0 a1 x ps = some true := by
  refine EV.ex (g := fun k => mosaiclaw03_MerkleBinds.f k l0 a1 x ps) ?_
  have short : EV (fun k => mosaiclaw03_MerkleBinds.j0 k l0 a1 true x ps) true := by
    refine EV.succ ?_
    simp only [mosaiclaw03_MerkleBinds.j0]
    exact EV.pos (by first | trivial | rfl) (EV.bind awake_ev (EV.const _))
  unfold mosaiclaw03_MerkleBinds.f
  refine EV.bind (few_ev l0 20 1024 (by omega)) ?_
  by_cases hf : fewOf l0 20 1024 = true
  · refine EV.pos hf ?_
    by_cases h0 : l0.length = 0
    · exact EV.pos (by omega) short
    · refine EV.neg (by omega) ?_
      by_cases hd : (x.size : Int) > 1024
      · exact EV.pos hd short
      · refine EV.neg hd (EV.bind (few_ev ps 12 100 (by omega)) ?_)
        cases hfp : fewOf ps 12 100 with
        | false => exact short
        | true =>
          show EV (fun k => mosaiclaw03_MerkleBinds.j0 k l0 a1 false x ps) true
          obtain ⟨hn, hs⟩ := few_true (n := 20) (m := 1024) hf
          obtain ⟨i, hi, hidx⟩ := idx a1 l0.length (by omega) (by omega)
          have F := facts l0 i hi (by omega) hs
          have hx := hs _ (getD_mem l0 i hi)
          have yes : EV (fun k => mosaiclaw03_MerkleBinds.j2 k l0 (i : Int) true x ps) true := by
            refine EV.succ ?_
            simp only [mosaiclaw03_MerkleBinds.j2]
            exact EV.pos (by first | trivial | rfl) (EV.const _)
          refine EV.succ ?_
          simp only [mosaiclaw03_MerkleBinds.j0]
          rw [hidx]
          refine EV.neg (by decide) (EV.neg (by omega) (EV.bind (root_ev l0 (by omega) (by omega) hs) (EV.bind awake_ev (EV.pos (by first | trivial | rfl) ?_))))
          show EV (fun k => mosaiclaw03_MerkleBinds.j1 k l0 (i : Int) (rootS SHA 9 (l0.map fun x => SHA (lf x))) false x ps) true
          refine EV.succ ?_
          simp only [mosaiclaw03_MerkleBinds.j1]
          refine EV.neg (by decide) ?_
          rw [leaf_f x (by omega)]
          simp only [Option.bind_some]
          obtain ⟨c, hc, hcok⟩ := check_any (rootS SHA 9 (l0.map fun x => SHA (lf x))) l0.length i (SHA (lf x)) ps hi (by omega)
          refine EV.bind hc ?_
          by_cases hct : c = true
          · refine EV.pos hct (EV.pos (by omega) (EV.pos (by omega) ?_))
            rw [rdOf_nat]
            obtain ⟨⟨h32, hlen, hps⟩, hroot⟩ := hcok hct
            by_cases he : x = l0.getD i ByteArray.empty
            · rw [show (x.toList == (l0.getD i ByteArray.empty).toList) = true from by rw [he]; simp]
              exact yes
            · rw [show (x.toList == (l0.getD i ByteArray.empty).toList) = false from by simp only [beq_eq_false_iff_ne, ne_eq]; exact fun h => he (toList_inj h)]
              refine EV.succ ?_
              simp only [mosaiclaw03_MerkleBinds.j2]
              have htd := tdS_len SHA l0.length l0 (by omega)
              have hcl := cl_len SHA (sides 8 l0.length i) (SHA (lf x)) ps
              have hside := sides_len 8 l0.length i
              refine EV.neg (by decide) (EV.bind (Texts_ev l0 (by omega) (by omega) hs) (EV.bind (road_ok l0.length i x ps hi (by omega) (by omega) hlen hps) (EV.pos (by simp only [List.length_cons]; omega) ?_)))
              have done : ∀ t t', t ∈ lf x :: (cl SHA (sides 8 l0.length i) (SHA (lf x)) ps).2 → t' ∈ (tdS SHA l0.length l0).1 → t ≠ t' → SHA t = SHA t' →
                  EV (fun k => (merkle_Witness.f k ((tdS SHA l0.length l0).1 ++ lf x :: (cl SHA (sides 8 l0.length i) (SHA (lf x)) ps).2)).bind fun bt484 => (if bt484.2.2 = true then (if bt484.1.toList = bt484.2.1.toList then (some false) else ((mosaicref01_Sum.f k bt484.1).bind fun t487 => ((mosaicref01_Sum.f k bt484.2.1).bind fun t488 => (some (t487.toList == t488.toList))))) else (some false))) true := by
                intro t t' ht ht' hne heq
                obtain ⟨r, hr, h1, h2, h3⟩ := wit_ev (tdS SHA l0.length l0).1 (lf x :: (cl SHA (sides 8 l0.length i) (SHA (lf x)) ps).2) (by rw [List.length_append, List.length_cons]; omega) t' t ht' ht (fun h => hne h.symm) heq.symm
                refine EV.bind hr (EV.pos h1 (EV.neg (fun h => h2 (toList_inj h)) (EV.bind (sum_ref _) (EV.bind (sum_ref _) ((EV.const _).to ?_)))))
                rw [h3]
                simp
              rcases collide (sides 8 l0.length i) (SHA (lf x)) (SHA (lf (l0.getD i ByteArray.empty))) ps _ hlen F.len h32 (SHA_32 (by rw [lf_size]; omega)) hps F.s32 (hroot.trans F.root.symm) with h | ⟨t, ht, t', ht', hne, heq⟩
              · exact done _ _ List.mem_cons_self (F.among _ List.mem_cons_self) (fun h' => he (lf_inj h')) h
              · exact done _ _ (List.mem_cons_of_mem _ ht) (F.among _ (List.mem_cons_of_mem _ ht')) hne heq
          · exact EV.neg hct yes
  · exact EV.neg hf short
end Go.Proofs.Ytaomblcecjaedaa.P
