/- What the claim on this statement wants of the text YtomhhbjebgghnaaEMap. Not trusted: Lean checks it. -/
import Derived.Maps.RangeWalk
import Derived.WalkKit
import Derived.Below
namespace Go.Proofs.Ytomhhbjebgghnaa.Emap
open Go.Maps (Keyed)
open Go.MapKept
/-- How keys and elements are told: kv, vv; good: the keys that may be told. -/
structure KOk {κ : Type} (P : Program) (kt : TypeId) (kv : κ → Value) (good : κ → Prop) : Prop where
  K : Keyed P kt
  tell : ∀ k, good k → ∃ l, keyOf P kt (kv k) = some l
  inj : ∀ a b, kv a = kv b → a = b
/-- The entries of a map's block. -/
structure Ents {κ β : Type} (good : κ → Prop) (kv : κ → Value) (vv : β → Value) (es : Array MapEntry) (clock : Nat) (M : List (κ × β)) : Prop where
  eq : es.toList.map (fun e => (e.key, e.val)) = M.map (fun p => (kv p.1, vv p.2))
  born : ∀ e ∈ es.toList, e.born < clock
  dist : (es.toList.map (·.born)).Nodup
  keys : (M.map (·.1)).Nodup
  ok : ∀ p ∈ M, good p.1
section
variable {κ β : Type} {good : κ → Prop} {kv : κ → Value} {vv : β → Value} {es : Array MapEntry} {clock : Nat} {M : List (κ × β)} {P : Program} {kt et t : TypeId} {w : World} {b : Nat}
theorem Ents.nil : Ents good kv vv #[] 0 ([] : List (κ × β)) := ⟨rfl, (fun _ h => by cases h), List.nodup_nil, List.nodup_nil, (fun _ h => by cases h)⟩
theorem Ents.size (h : Ents good kv vv es clock M) : es.size = M.length := by
  have := congrArg List.length h.eq
  simpa using this
theorem Ents.at_ (h : Ents good kv vv es clock M) {j : Nat} {e : MapEntry} (he : es.toList[j]? = some e) : ∃ p, M[j]? = some p ∧ e.key = kv p.1 ∧ e.val = vv p.2 := by
  have := congrArg (·[j]?) h.eq
  simp only [List.getElem?_map, he, Option.map_some] at this
  obtain ⟨p, hp, e2⟩ := Option.map_eq_some_iff.1 this.symm
  simp only [Prod.mk.injEq] at e2
  exact ⟨p, hp, e2.1.symm, e2.2.symm⟩
theorem Ents.at' (h : Ents good kv vv es clock M) {j : Nat} {p : κ × β} (hp : M[j]? = some p) : ∃ e, es.toList[j]? = some e ∧ e.key = kv p.1 ∧ e.val = vv p.2 := by
  have := congrArg (·[j]?) h.eq
  simp only [List.getElem?_map, hp, Option.map_some] at this
  obtain ⟨e, he, e2⟩ := Option.map_eq_some_iff.1 this
  simp only [Prod.mk.injEq] at e2
  exact ⟨e, he, e2.1, e2.2⟩
theorem Ents.tells (h : Ents good kv vv es clock M) (O : KOk P kt kv good) : ∀ e ∈ es.toList, ∃ l, keyOf P kt e.key = some l := fun e he => by
  obtain ⟨j, hj⟩ := List.getElem?_of_mem he
  obtain ⟨p, hp, hk, _⟩ := h.at_ hj
  rw [hk]
  exact O.tell _ (h.ok p (List.mem_of_getElem? hp))
/-- Looking a key up among the entries. -/
theorem Ents.find (h : Ents good kv vv es clock M) (O : KOk P kt kv good) (w : World) {k : κ} (hk : good k) :
    ((Instr.findKey kt (kv k) es.toList).run P w = .ok none w ∧ ∀ p ∈ M, p.1 ≠ k) ∨ ∃ (j : Nat) (x : β), (Instr.findKey kt (kv k) es.toList).run P w = .ok (some (j, vv x)) w ∧ M[j]? = some (k, x) := by
  obtain ⟨l, hl⟩ := O.tell k hk
  rcases O.K.find w hl es.toList (h.tells O) with ⟨h1, h2⟩ | ⟨j, e, h1, h2, h3⟩
  · refine .inl ⟨h1, fun p hp hpk => ?_⟩
    obtain ⟨j, hj⟩ := List.getElem?_of_mem hp
    obtain ⟨e, he, hek, _⟩ := h.at' hj
    exact h2 e (List.mem_of_getElem? he) (by rw [hek, hpk])
  · obtain ⟨p, hp, hek, hev⟩ := h.at_ h2
    have : p.1 = k := O.inj _ _ (hek.symm.trans h3)
    exact .inr ⟨j, p.2, by rw [h1, hev], by rw [hp, ← this]⟩
theorem lookup_ok (h : Ents good kv vv es clock M) (O : KOk P kt kv good) (ht : P.underlying t = some (.map kt et)) (hb : w.heap[b]? = some (.map es clock)) {k : κ} (hk : good k) {z : Value} (hz : (zeroValue et).run P w = .ok z w) (c : Bool) :
    ((Instr.lookup t (.map (some b)) (kv k) c).run P w = .ok (if c then .tuple #[z, .bool false] else z) w ∧ ∀ p ∈ M, p.1 ≠ k) ∨
    ∃ x, (k, x) ∈ M ∧ (Instr.lookup t (.map (some b)) (kv k) c).run P w = .ok (if c then .tuple #[vv x, .bool true] else vv x) w := by
  obtain ⟨l, hl⟩ := O.tell k hk
  rcases h.find O w hk with ⟨h1, h2⟩ | ⟨j, x, h1, h2⟩
  · exact .inl ⟨by simp [Instr.lookup, run_underlying ht, MapKept.run_getObj_map hb, O.K.check w _ hl, h1, hz, Result.andThen], h2⟩
  · exact .inr ⟨x, List.mem_of_getElem? h2, by simp [Instr.lookup, run_underlying ht, MapKept.run_getObj_map hb, O.K.check w _ hl, h1, Result.andThen]⟩
theorem len_ok (h : Ents good kv vv es clock M) (ht : P.underlying t = some (.map kt et)) (hb : w.heap[b]? = some (.map es clock)) :
    (Builtin.len_ #[t] 3 #[.map (some b)]).run P w = .ok (.int .i64 M.length) w := by
  simp [Builtin.len_, run_underlying ht, MapKept.run_getObj_map hb, Result.andThen, h.size, goInt]
/-- The world with another thing in block b. -/
def put (w : World) (b : Nat) (o : Obj) : World := { w with heap := w.heap.setIfInBounds b o }
theorem put_same (hb : b < w.heap.size) (o : Obj) : (put w b o).heap[b]? = some o := by simp [put, hb]
theorem put_other {k : Nat} (h : k ≠ b) (o : Obj) : (put w b o).heap[k]? = w.heap[k]? := by simp [put, Ne.symm h]
theorem put_size (o : Obj) : (put w b o).heap.size = w.heap.size := by simp [put]
theorem put_grown (w : World) (b : Nat) (o : Obj) : w.grownBy (put w b o) (some b) := ⟨rfl, rfl, rfl, by rw [put_size]; exact Nat.le_refl _, fun k _ hk => put_other (fun e => hk (by rw [e])) o⟩
theorem store_ok (h : Ents good kv vv es clock M) (O : KOk P kt kv good) (ht : P.underlying t = some (.map kt et)) (hb : w.heap[b]? = some (.map es clock)) {k : κ} (hk : good k) (hn : ∀ p ∈ M, p.1 ≠ k) (x : β) :
    (Instr.mapUpdate t (.map (some b)) (kv k) (vv x)).run P w = .ok () (put w b (.map (es.push ⟨kv k, vv x, clock⟩) (clock + 1))) ∧ Ents good kv vv (es.push ⟨kv k, vv x, clock⟩) (clock + 1) (M ++ [(k, x)]) := by
  obtain ⟨l, hl⟩ := O.tell k hk
  refine ⟨?_, ?_, ?_, ?_, ?_, ?_⟩
  · rcases h.find O w hk with ⟨h1, h2⟩ | ⟨j, x', h1, h2⟩
    · simp [Instr.mapUpdate, run_underlying ht, MapKept.run_getObj_map hb, O.K.check w _ hl, h1, MapKept.run_setObj_map _ hb, Result.andThen, put]
    · exact absurd rfl (hn _ (List.mem_of_getElem? h2))
  · rw [Array.toList_push, List.map_append, List.map_append, h.eq]; rfl
  · intro e he
    rw [Array.toList_push] at he
    rcases List.mem_append.1 he with he | he
    · have := h.born e he; omega
    · rw [List.mem_singleton.1 he]; exact Nat.lt_succ_self _
  · rw [Array.toList_push, List.map_append, List.nodup_append]
    refine ⟨h.dist, by simp, fun a ha c hc => ?_⟩
    obtain ⟨e, he, rfl⟩ := List.mem_map.1 ha
    have hc' : c = clock := by simpa using hc
    have := h.born e he
    omega
  · rw [List.map_append, List.nodup_append]
    refine ⟨h.keys, by simp, fun a ha c hc => ?_⟩
    obtain ⟨p, hp, rfl⟩ := List.mem_map.1 ha
    have hc' : c = k := by simpa using hc
    rw [hc']
    exact hn p hp
  · intro p hp
    rcases List.mem_append.1 hp with hp | hp
    · exact h.ok p hp
    · rw [List.mem_singleton.1 hp]; exact hk
theorem erase_keys {M : List (κ × β)} (hn : (M.map (·.1)).Nodup) [DecidableEq κ] : ∀ {j : Nat} {k : κ} {x : β}, M[j]? = some (k, x) → M.eraseIdx j = M.filter (fun p => decide (p.1 ≠ k)) := by
  induction M with
  | nil => intro j k x h; simp at h
  | cons p M ih =>
    intro j k x h
    have hp := List.nodup_cons.1 (by simpa using hn : (p.1 :: M.map (·.1)).Nodup)
    cases j with
    | zero =>
      have e : p = (k, x) := by simpa using h
      subst e
      rw [List.eraseIdx_cons_zero, List.filter_cons_of_neg (by simp)]
      refine (List.filter_eq_self.2 fun q hq => ?_).symm
      have : q.1 ≠ k := fun e => hp.1 (by rw [e.symm]; exact List.mem_map.2 ⟨q, hq, rfl⟩)
      simpa using this
    | succ j =>
      have h' : M[j]? = some (k, x) := by simpa using h
      have hne : p.1 ≠ k := fun e => hp.1 (by rw [e]; exact List.mem_map.2 ⟨(k, x), List.mem_of_getElem? h', rfl⟩)
      rw [List.eraseIdx_cons_succ, List.filter_cons_of_pos (by simpa using hne), ih hp.2 h']
theorem erase_map {γ δ : Type} (f : γ → δ) : ∀ (l : List γ) (j : Nat), (l.eraseIdx j).map f = (l.map f).eraseIdx j
  | [], j => by simp
  | a :: l, 0 => rfl
  | a :: l, j + 1 => by simp [erase_map f l j]
theorem Ents.sub (h : Ents good kv vv es clock M) (j : Nat) : Ents good kv vv (es.eraseIdxIfInBounds j) clock (M.eraseIdx j) := by
  have e : (es.eraseIdxIfInBounds j).toList = es.toList.eraseIdx j := by
    unfold Array.eraseIdxIfInBounds
    split
    · rw [Array.toList_eraseIdx]
    · rename_i hj
      rw [List.eraseIdx_of_length_le (by simpa using hj)]
  refine ⟨?_, fun x hx => ?_, ?_, ?_, fun p hp => h.ok p (List.mem_of_mem_eraseIdx hp)⟩
  · rw [e, erase_map, erase_map, h.eq]
  · rw [e] at hx; exact h.born x (List.mem_of_mem_eraseIdx hx)
  · rw [e, erase_map]; exact h.dist.sublist (List.eraseIdx_sublist _ _)
  · rw [erase_map]; exact h.keys.sublist (List.eraseIdx_sublist _ _)
theorem delete_ok [DecidableEq κ] (h : Ents good kv vv es clock M) (O : KOk P kt kv good) (ht : P.underlying t = some (.map kt et)) (hb : w.heap[b]? = some (.map es clock)) {k : κ} (hk : good k) (u : TypeId) (kt' : TypeId) :
    ∃ es', (Builtin.delete_ #[t, kt'] u #[.map (some b), kv k]).run P w = .ok (.tuple #[]) (put w b (.map es' clock)) ∧ Ents good kv vv es' clock (M.filter (fun p => decide (p.1 ≠ k))) := by
  obtain ⟨l, hl⟩ := O.tell k hk
  rcases h.find O w hk with ⟨h1, h2⟩ | ⟨j, x, h1, h2⟩
  · refine ⟨es, by simp [Builtin.delete_, run_underlying ht, MapKept.run_getObj_map hb, O.K.check w _ hl, h1, MapKept.run_setObj_map _ hb, Result.andThen, put], ?_⟩
    rw [List.filter_eq_self.2 fun p hp => by simpa using h2 p hp]
    exact h
  · refine ⟨es.eraseIdxIfInBounds j, by simp [Builtin.delete_, run_underlying ht, MapKept.run_getObj_map hb, O.K.check w _ hl, h1, MapKept.run_setObj_map _ hb, Result.andThen, put], ?_⟩
    rw [← erase_keys h.keys h2]
    exact h.sub j
end
section
variable {κ β : Type} {good : κ → Prop} {kv : κ → Value} {vv : β → Value} {es : Array MapEntry} {clock : Nat} {M : List (κ × β)} {P : Program} {kt et t : TypeId} {w : World} {b r : Nat}
theorem range_ok (ht : P.underlying t = some (.map kt et)) (hb : w.heap[b]? = some (.map es clock)) :
    (Instr.range t (.map (some b))).run P w = .ok (.pointer (some ⟨w.heap.size, 0, none⟩)) (w.alloc (.mapIter (some b) clock #[] clock)) := by
  simp only [Instr.range, Sem.run_bind, run_underlying ht, MapKept.run_getObj_map hb, Result.andThen]
  rfl
def unseen (es : Array MapEntry) (seen : Array Nat) : List MapEntry := es.toList.filter fun e => !seen.contains e.born
def leftN (w : World) (r b : Nat) : Nat := match w.heap[r]?, w.heap[b]? with
  | some (.mapIter _ _ seen _), some (.map es _) => (unseen es seen).length
  | _, _ => 0
theorem leftN_eq {x1 x2 seen x3 x4} (hr : w.heap[r]? = some (.mapIter x1 x2 seen x3)) (hb : w.heap[b]? = some (.map es x4)) : leftN w r b = (unseen es seen).length := by
  unfold leftN; rw [hr, hb]
theorem filter_lt {γ : Type} {p q : γ → Bool} {l : List γ} (h : ∀ x ∈ l, q x = true → p x = true) {x : γ} (hx : x ∈ l) (hp : p x = true) (hq : q x = false) : (l.filter q).length < (l.filter p).length := by
  induction l with
  | nil => cases hx
  | cons a l ih =>
    rw [List.filter_cons, List.filter_cons]
    have hle : (l.filter q).length ≤ (l.filter p).length := by
      have : ∀ m : List γ, (∀ x ∈ m, q x = true → p x = true) → (m.filter q).length ≤ (m.filter p).length := by
        intro m
        induction m with
        | nil => intro _; simp
        | cons c m ih2 =>
          intro hm
          have := ih2 (fun x hx => hm x (List.mem_cons_of_mem _ hx))
          rw [List.filter_cons, List.filter_cons]
          cases hqc : q c with
          | true => rw [hm c List.mem_cons_self hqc]; simpa using this
          | false => cases hpc : p c <;> simp <;> omega
      exact this l fun x hx => h x (List.mem_cons_of_mem _ hx)
    rcases List.mem_cons.1 hx with rfl | hx
    · rw [hp, hq]; simp; omega
    · have := ih (fun x hx => h x (List.mem_cons_of_mem _ hx)) hx
      cases hqa : q a with
      | true => rw [h a List.mem_cons_self hqa]; simpa using this
      | false => cases hpa : p a <;> simp <;> omega
theorem unseen_push {seen : Array Nat} {e : MapEntry} (he : e ∈ es.toList) (hs : seen.contains e.born = false) : (unseen es (seen.push e.born)).length < (unseen es seen).length := by
  unfold unseen
  refine filter_lt (x := e) (fun x _ hx => ?_) he (by rw [hs]; rfl) (by simp)
  cases hc : seen.contains x.born with
  | false => rfl
  | true =>
    have : (seen.push e.born).contains x.born = true := by
      rw [Array.contains_iff_mem] at hc ⊢
      exact Array.mem_push.2 (.inl hc)
    rw [this] at hx
    cases hx
theorem run_getObj_iter {r : Nat} {x1 x2 x3 x4} (hr : w.heap[r]? = some (.mapIter x1 x2 x3 x4)) : (getObj r).run P w = .ok (.mapIter x1 x2 x3 x4) w := by
  simp [getObj, Sem.run, hr]
theorem next_ok {seen : Array Nat} (hr : w.heap[r]? = some (.mapIter (some b) clock seen clock)) (hb : w.heap[b]? = some (.map es clock)) (hborn : ∀ e ∈ es.toList, e.born < clock) (hdist : (es.toList.map (·.born)).Nodup) (ty : TypeId) :
    ((∀ e ∈ es.toList, seen.contains e.born = true) ∧ (Instr.next (.pointer (some ⟨r, 0, none⟩)) false ty).run P w = .ok (.tuple #[.bool false]) w) ∨
    ∃ (j : Nat) (e : MapEntry) (w1 : World), es.toList[j]? = some e ∧ seen.contains e.born = false ∧ (Instr.next (.pointer (some ⟨r, 0, none⟩)) false ty).run P w = .ok (.tuple #[.bool true, e.key, e.val]) w1 ∧
      w1.heap[r]? = some (.mapIter (some b) clock (seen.push e.born) clock) ∧ w1.heap[b]? = some (.map es clock) ∧ w.grownBy w1 (some r) ∧ w1.heap.size = w.heap.size ∧ (Instr.entry (.pointer (some ⟨r, 0, none⟩))).run P w1 = .ok (.tuple #[e.key, e.val]) w1 := by
  have hall : (!seen.isEmpty && !es.isEmpty && es.all (fun x => decide (x.born ≥ clock))) = false := by
    cases hem : es.isEmpty with
    | true => simp
    | false =>
      have hne : es.toList ≠ [] := by
        intro e
        have : es = #[] := by simpa using e
        rw [this] at hem; simp at hem
      obtain ⟨e, l, hel⟩ := List.exists_cons_of_ne_nil hne
      have he : e ∈ es.toList := by rw [hel]; simp
      have : es.all (fun x => decide (x.born ≥ clock)) = false := by
        rw [Array.all_eq_false]
        obtain ⟨i, hi, hie⟩ := List.getElem_of_mem he
        refine ⟨i, by simpa using hi, ?_⟩
        have := hborn e he
        have h2 : es[i]'(by simpa using hi) = e := by simpa using hie
        rw [h2]; simp; omega
      rw [this]; simp
  have hold : (es.filter fun e => !seen.contains e.born).filter (fun e => decide (e.born < clock)) = es.filter fun e => !seen.contains e.born := by
    rw [Array.filter_eq_self]
    intro e he
    have he' := (Array.mem_filter.1 he).1
    simpa using hborn e (by simpa using he')
  have hnew : (es.filter fun e => !seen.contains e.born).filter (fun e => decide (e.born ≥ clock)) = #[] := by
    rw [Array.filter_eq_empty_iff]
    intro e he
    have he' := (Array.mem_filter.1 he).1
    have := hborn e (by simpa using he')
    simp; omega
  obtain ⟨L, hL⟩ : ∃ L, L = es.filter fun e => !seen.contains e.born := ⟨_, rfl⟩
  by_cases hemp : L = #[]
  · left
    refine ⟨fun e he => ?_, ?_⟩
    · cases hc : seen.contains e.born with
      | true => rfl
      | false =>
        have : e ∈ L := by rw [hL]; exact Array.mem_filter.2 ⟨by simpa using he, by rw [hc]; rfl⟩
        rw [hemp] at this
        simp at this
    · simp only [Instr.next, Sem.run_bind, run_getObj_iter hr, MapKept.run_getObj_map hb, Result.andThen, hall]
      rw [← hL] at hold hnew ⊢
      rw [hold, hnew, hemp]
      simp [choose, Sem.run, Question.forced, Result.andThen]
  · right
    have hpos : 0 < L.size := by
      rcases Nat.eq_zero_or_pos L.size with h | h
      · exact absurd (Array.eq_empty_of_size_eq_zero h) hemp
      · exact h
    have key : ∀ i, i < L.size → ∃ (j : Nat) (e : MapEntry), L[i]? = some e ∧ es.toList[j]? = some e ∧ seen.contains e.born = false := by
      intro i hi
      have he : L[i] ∈ L := Array.getElem_mem hi
      obtain ⟨e, hee⟩ : ∃ e, e = L[i] := ⟨_, rfl⟩
      rw [← hee] at he
      rw [hL] at he
      obtain ⟨h1, h2⟩ := Array.mem_filter.1 he
      obtain ⟨j, hj⟩ := List.getElem?_of_mem (by simpa using h1 : e ∈ es.toList)
      exact ⟨j, e, by rw [Array.getElem?_eq_getElem hi, hee], hj, by simpa using h2⟩
    -- which one: whatever the world draws
    have draw : ∃ (i : Nat) (w0 : World), i < L.size ∧ (choose (.mapNext L.size)).run P w = .ok i w0 ∧ w0.heap = w.heap ∧ w0.os = w.os ∧ w0.tape = w.tape ∧ w0.output = w.output := by
      by_cases h1 : L.size ≤ 1
      · exact ⟨0, w, hpos, by simp [choose, Sem.run, Question.forced, h1], rfl, rfl, rfl, rfl⟩
      · exact ⟨_, { w with drawn := w.drawn + 1 }, Nat.mod_lt _ hpos, by
          have hf : (Question.mapNext L.size).forced = false := by simp [Question.forced]; omega
          simp only [choose, Sem.run, hf, Bool.false_eq_true, if_false]; rfl, rfl, rfl, rfl, rfl⟩
    obtain ⟨i, w0, hi, hch, h1, h2, h3, h4⟩ := draw
    obtain ⟨j, e, hLi, hej, hse⟩ := key i hi
    have hr0 : w0.heap[r]? = some (.mapIter (some b) clock seen clock) := by rw [h1]; exact hr
    have hrl : r < w0.heap.size := (Array.getElem?_eq_some_iff.1 hr0).1
    have hne : b ≠ r := by
      intro e; subst e
      rw [hr] at hb; cases hb
    refine ⟨j, e, put w0 r (.mapIter (some b) clock (seen.push e.born) clock), hej, hse, ?_, put_same hrl _, ?_, ?_, ?_, ?_⟩
    · have hcand : ((if L.isEmpty then #[none] else #[]) ++ (L ++ #[]).map some) = L.map some := by
        have : L.isEmpty = false := by
          cases h : L.isEmpty with
          | false => rfl
          | true => exact absurd (by simpa using h) hemp
        rw [this]; simp
      simp only [Instr.next, Sem.run_bind, run_getObj_iter hr, MapKept.run_getObj_map hb, Result.andThen, hall, Bool.false_eq_true, if_false]
      rw [← hL] at hold hnew ⊢
      rw [hold, hnew, hcand, Array.size_map, hch]
      simp [Result.andThen, hLi, setObj, Sem.run, hr0, put]
    · rw [put_other hne, h1]; exact hb
    · have := put_grown w0 r (.mapIter (some b) clock (seen.push e.born) clock)
      exact ⟨this.os.trans h2, this.tape.trans h3, this.output.trans h4, by rw [put_size, h1]; exact Nat.le_refl _, fun k hk hne => by rw [this.block k (by rw [h1]; exact hk) hne, h1]⟩
    · rw [put_size, h1]
    · have hb1 : (put w0 r (.mapIter (some b) clock (seen.push e.born) clock)).heap[b]? = some (.map es clock) := by rw [put_other hne, h1]; exact hb
      have hfind : es.find? (fun x => x.born == e.born) = some e := by
        rw [← Array.find?_toList]
        have hm := List.mem_of_getElem? hej
        have : ∀ l : List MapEntry, (l.map (·.born)).Nodup → e ∈ l → l.find? (fun x => x.born == e.born) = some e := by
          intro l
          induction l with
          | nil => intro _ h; cases h
          | cons a l ih =>
            intro hn hm
            obtain ⟨hn1, hn2⟩ := List.nodup_cons.1 (by simpa using hn : (a.born :: l.map (·.born)).Nodup)
            rcases List.mem_cons.1 hm with rfl | hm
            · simp
            · have hne : ¬ a.born = e.born := fun h => hn1 (by rw [h]; exact List.mem_map.2 ⟨e, hm, rfl⟩)
              rw [List.find?_cons_of_neg (by simpa using hne)]
              exact ih hn2 hm
        exact this _ hdist hm
      simp [Instr.entry, run_getObj_iter (put_same hrl _), MapKept.run_getObj_map hb1, Result.andThen, hfind]
end
end Go.Proofs.Ytomhhbjebgghnaa.Emap
