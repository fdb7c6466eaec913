/- What the claim on this statement wants of the text YtgcgnnblgimegaaEGMay. Not trusted: Lean checks it. -/
import Derived.Test.YtgcgnnblgimegaaK2Px1
import Derived.Test.YtgcgnnblgimegaaK2Ev
namespace Go.Proofs.Ytgcgnnblgimegaa.P
open Go.RowKit Go.Proofs.YtgcgnnblgimegaaW.PrintWords Go.Proofs.YtgcgnnblgimegaaW.PrintLast Go.Proofs.YtgcgnnblgimegaaW.PrintMore
set_option linter.unusedVariables false
set_option linter.unusedSimpArgs false
/-- One place of a row: a number below n, above the one ahead of it. -/
def mayAt (n : Int) (l : List Int) (k : Nat) : Bool := decide (0 ≤ rd l k) && decide (rd l k < n) && (decide (k = 0) || decide (rd l ((k : Int) - 1) < rd l k))
def mayRowB (n : Int) (l : List Int) : Bool := allFrom (mayAt n l) l.length 0
theorem mayRow_l0 (n : Int) (l : List Int) (hl : l.length ≤ 9223372036854775807) : ∀ (d i : Nat), i + d = l.length → EV (fun k => gauss_mayRow.l0 k n l l (l.length : Int) (i : Int)) (allFrom (mayAt n l) d i)
  | 0, i, h => by
    refine EV.succ ?_
    simp only [gauss_mayRow.l0]
    exact EV.neg (by omega) (EV.const _)
  | d + 1, i, h => by
    refine EV.succ ?_
    simp only [gauss_mayRow.l0]
    refine EV.pos (by omega) (EV.pos (by omega) (EV.pos (by omega) ?_))
    unfold allFrom
    by_cases h1 : rd l (i : Int) < 0
    · refine EV.pos h1 ((EV.const _).to ?_)
      have : mayAt n l i = false := by unfold mayAt; rw [decide_eq_false (by omega)]; rfl
      rw [this]; rfl
    refine EV.neg h1 ?_
    by_cases h2 : rd l (i : Int) ≥ n
    · refine EV.pos h2 ((EV.const _).to ?_)
      have : mayAt n l i = false := by unfold mayAt; rw [decide_eq_false (p := rd l (i : Int) < n) (by omega)]; simp
      rw [this]; rfl
    refine EV.neg h2 ?_
    have hw : wrap64 ((i : Int) + 1) = ((i + 1 : Nat) : Int) := by rw [w64 _ (by omega) (by omega)]; rfl
    have ih := mayRow_l0 n l hl d (i + 1) (by omega)
    rw [← hw] at ih
    by_cases h3 : (i : Int) > 0
    · have hw1 : wrap64 ((i : Int) - 1) = (i : Int) - 1 := w64 _ (by omega) (by omega)
      refine EV.pos h3 ?_
      rw [hw1]
      refine EV.pos (by omega) (EV.pos (by omega) ?_)
      by_cases h4 : rd l (i : Int) ≤ rd l ((i : Int) - 1)
      · refine EV.pos h4 ((EV.const _).to ?_)
        have : mayAt n l i = false := by unfold mayAt; rw [decide_eq_false (p := i = 0) (by omega), decide_eq_false (p := rd l ((i : Int) - 1) < rd l i) (by omega)]; simp
        rw [this]; rfl
      · refine EV.neg h4 (ih.to ?_)
        have : mayAt n l i = true := by unfold mayAt; rw [decide_eq_true (p := 0 ≤ rd l (i : Int)) (by omega), decide_eq_true (p := rd l (i : Int) < n) (by omega), decide_eq_true (p := rd l ((i : Int) - 1) < rd l i) (by omega)]; simp
        rw [this]; rfl
    · refine EV.neg h3 (ih.to ?_)
      have : mayAt n l i = true := by unfold mayAt; rw [decide_eq_true (p := 0 ≤ rd l (i : Int)) (by omega), decide_eq_true (p := rd l (i : Int) < n) (by omega), decide_eq_true (p := i = 0) (by omega)]; simp
      rw [this]; rfl
theorem mayRow_ev (n : Int) (l : List Int) (hl : l.length ≤ 9223372036854775807) : EV (fun k => gauss_mayRow.f k n l) (mayRowB n l) := mayRow_l0 n l hl l.length 0 (by omega)
set_option maxHeartbeats 1000000 in
set_option maxRecDepth 100000 in
/-- May's function value: is a row NOT as it may be? -/
theorem mayNot_calls (gn : Nat) (n : Int) (A : Option Addr) (c : Nat) (l : List Int) (w : World) (hn : w.cell? ⟨gn, 0, none⟩ = some (.int .i64 n)) (hr : Kd.C (Kd.int .i64) w A l.length l) (hc : l.length ≤ c) :
    Calls Try.prog 45 #[.slice A l.length c, .pointer (some ⟨gn, 0, none⟩)] w fun e w' => e = .returned (.bool (!mayRowB n l)) ∧ Drawn0 w w' := by
  obtain ⟨k, hk⟩ := (mayRow_ev n l hr.2.1).ex
  have HC := Aside0.mk (gauss_mayRow.calls k n A c l _ w hr hc hk)
  clear hr hk
  go_enter Try.func45, Try.ntmps45
  go_wp2_with fail
  refine HC.out.mono ?_
  rintro e w1 ⟨rfl, hd⟩
  have HD := Aside0.mk hd
  clear hd HC
  go_wp2_with fail
  go_ret
  exact ⟨rfl, HD.out⟩
/-- The place of the first row that is not as it may be, from place i on; -1: there is none. -/
def nidx (n : Int) : List (List Int) → Int → Int
  | [], _ => -1
  | s :: l, i => if mayRowB n s then nidx n l (i + 1) else i
theorem nidx_any (n : Int) (l : List (List Int)) : ∀ i : Int, 0 ≤ i → decide (0 ≤ nidx n l i) = !l.all (mayRowB n) := by
  induction l with
  | nil => intro i _; rfl
  | cons s l ih =>
    intro i hi
    unfold nidx
    cases hp : mayRowB n s with
    | false => simp [hp, hi]
    | true => simpa [hp] using ih (i + 1) (by omega)
theorem nidx_step (n : Int) (l : List (List Int)) (k : Nat) (h : k < l.length) : nidx n (l.drop k) k = if mayRowB n (rd_L1 l (k : Int)) then nidx n (l.drop (k + 1)) (k + 1) else (k : Int) := by
  rw [List.drop_eq_getElem_cons h]
  have : rd_L1 l (k : Int) = l[k] := by simp [rd_L1, h]
  rw [this]
  rfl
set_option maxHeartbeats 1000000 in
set_option maxRecDepth 100000 in
theorem nidx_calls (gn : Nat) (n : Int) (A0 : Option Addr) (c0 : Nat) (l0 : List (List Int)) (w : World) (hn : w.cell? ⟨gn, 0, none⟩ = some (.int .i64 n)) (hr0 : Kd.C (Kd.slice 3 (Kd.int .i64)) w A0 l0.length l0) :
    Calls Try.prog 82 #[.slice A0 l0.length c0, .func (.func 45) #[] #[.pointer (some ⟨gn, 0, none⟩)]] w fun e w' => e = .returned (.int .i64 (nidx n l0 0)) ∧ Drawn0 w w' := by
  have HR0 := Aside0.mk hr0
  have HN := Aside0.mk hn
  have hmax : l0.length ≤ 9223372036854775807 := hr0.2.1
  clear hr0 hn
  go_enter Try.func82, Try.ntmps82
  go_wp2_with fail
  go_loopw [8] (fun v8 wr => ∃ k : Nat, k ≤ l0.length ∧ v8 = .int .i64 k ∧ Aside0 (Drawn0 w wr) ∧ Aside0 (nidx n l0 0 = nidx n (l0.drop k) k)) (fun v8 _ => l0.length - (intOf v8).toNat)
  case atStart => exact ⟨0, Nat.zero_le _, rfl, ⟨Drawn0.refl w⟩, ⟨by simp⟩⟩
  case round =>
    obtain ⟨k, hk, rfl, HB, HI⟩ := hrel
    by_cases hlt : k < l0.length
    · obtain ⟨ad, A1, c1, e, hx, hc1, hC1⟩ := at_L1 (Kd.C_below HR0.out HB.out.below) (k : Int) (by omega) (by omega)
      cases e
      rw [Int.toNat_natCast] at hx
      have hs := nidx_step n l0 k hlt
      obtain ⟨s, hse⟩ : ∃ s, s = rd_L1 l0 (k : Int) := ⟨_, rfl⟩
      rw [← hse] at hx hs hc1 hC1
      have HC := Aside0.mk (mayNot_calls gn n A1 c1 s wr (pw_cell_below HB.out.below HN.out) hC1 hc1)
      have hlt' : (k : Int) < (l0.length : Int) := by omega
      clear hse hC1 hc1
      cases hpk : mayRowB n s with
      | false =>
        rw [hpk] at HC
        have HS : Aside0 (nidx n l0 0 = (k : Int)) := ⟨by rw [HI.out, hs, hpk]; rfl⟩
        clear hpk hs
        go_wp2_with fail
        refine HC.out.mono ?_
        rintro e w1 ⟨rfl, hd⟩
        have HD : Aside0 (Drawn0 w w1) := ⟨by obtain ⟨m, rfl⟩ := hd.out; exact HB.out.step m⟩
        clear hd HC
        go_wp2_with fail
        go_ret
        exact ⟨by rw [HS.out]; rfl, HD.out⟩
      | true =>
        rw [hpk] at HC
        have HS : Aside0 (nidx n l0 0 = nidx n (l0.drop (k + 1)) ((k : Int) + 1)) := ⟨by rw [HI.out, hs, hpk]; rfl⟩
        clear hpk hs
        go_wp2_with fail
        refine HC.out.mono ?_
        rintro e w1 ⟨rfl, hd⟩
        have HD : Aside0 (Drawn0 w w1) := ⟨by obtain ⟨m, rfl⟩ := hd.out; exact HB.out.step m⟩
        clear hd HC
        go_wp2_with fail
        go_roundw
        case rel => exact ⟨k + 1, by omega, by go_num, HD, ⟨by rw [HS.out]; rfl⟩⟩
        case measure => simp [intOf]; omega
    · have HE : Aside0 (nidx n l0 0 = -1) := ⟨by rw [HI.out, List.drop_eq_nil_of_le (by omega)]; rfl⟩
      go_wp2_with fail
      go_ret
      exact ⟨by rw [HE.out]; rfl, HB.out⟩
set_option maxHeartbeats 1000000 in
set_option maxRecDepth 100000 in
theorem ncont_calls (gn : Nat) (n : Int) (A0 : Option Addr) (c0 : Nat) (l0 : List (List Int)) (w : World) (hn : w.cell? ⟨gn, 0, none⟩ = some (.int .i64 n)) (hr0 : Kd.C (Kd.slice 3 (Kd.int .i64)) w A0 l0.length l0) :
    Calls Try.prog 44 #[.slice A0 l0.length c0, .func (.func 45) #[] #[.pointer (some ⟨gn, 0, none⟩)]] w fun e w' => e = .returned (.bool (!l0.all (mayRowB n))) ∧ Drawn0 w w' := by
  have HC := Aside0.mk (nidx_calls gn n A0 c0 l0 w hn hr0)
  have HA := Aside0.mk (nidx_any n l0 0 (by omega))
  clear hr0 hn
  obtain ⟨m, hm⟩ : ∃ m, m = nidx n l0 0 := ⟨_, rfl⟩
  rw [← hm] at HC HA
  clear hm
  go_enter Try.func44, Try.ntmps44
  go_wp2_with fail
  refine HC.out.mono ?_
  rintro e w' ⟨rfl, hd⟩
  have HD := Aside0.mk hd
  clear hd HC
  go_wp2_with fail
  go_ret
  exact ⟨by rw [← HA.out]; rfl, HD.out⟩
def mayB (n : Int) (rows : List (List Int)) : Bool := decide (0 ≤ n) && decide (n ≤ 160) && decide (rows.length ≤ 400) && rows.all (mayRowB n)
def gauss_May.f (a0 : Int) (l1 : List (List Int)) : Option Bool := some (mayB a0 l1)
set_option maxHeartbeats 1000000 in
set_option maxRecDepth 100000 in
theorem gauss_May.calls (a0 : Int) (A1 : Option Addr) (c1 : Nat) (l1 : List (List Int)) (r : Bool) (w : World) (hr1 : Kd.C (Kd.slice 3 (Kd.int .i64)) w A1 l1.length l1) (hc1 : l1.length ≤ c1) (h : gauss_May.f a0 l1 = some r) :
    Calls Try.prog 15 #[.int .i64 a0, .slice A1 l1.length c1] w fun e w' => e = .returned (.bool r) ∧ Below w.heap.size w w' := by
  obtain rfl := Option.some.inj h
  have HC := Aside0.mk (ncont_calls w.heap.size a0 A1 c1 l1 (w.alloc (.cells #[.int .i64 a0] 3)) (by simp only [World.cell?, heap_alloc_new]; rfl) (Kd.C_alloc hr1 _))
  have HB := Aside0.mk (below_alloc (Below.refl w.heap.size w) (.cells #[.int .i64 a0] 3))
  clear hr1 hc1 h
  by_cases h1 : 0 ≤ a0
  · by_cases h2 : a0 ≤ 160
    · by_cases h3 : l1.length ≤ 400
      · have HM : Aside0 (mayB a0 l1 = l1.all (mayRowB a0)) := ⟨by unfold mayB; rw [decide_eq_true h1, decide_eq_true h2, decide_eq_true h3]; simp⟩
        have d1 : decide (0 ≤ a0) = true := decide_eq_true h1
        have d2 : decide (a0 ≤ 160) = true := decide_eq_true h2
        have d3 : decide ((l1.length : Int) ≤ 400) = true := decide_eq_true (by omega)
        clear h1 h2 h3
        go_enter Try.func15, Try.ntmps15
        go_wp2_with fail
        refine HC.out.mono ?_
        rintro e w' ⟨rfl, hd⟩
        have HD : Aside0 (Below w.heap.size w w') := ⟨by obtain ⟨m, rfl⟩ := hd.out; exact pw_below_drewN HB.out m⟩
        clear hd HC
        go_wp2_with fail
        go_ret
        exact ⟨by rw [HM.out]; simp, HD.out⟩
      · have HM : Aside0 (mayB a0 l1 = false) := ⟨by unfold mayB; rw [decide_eq_true h1, decide_eq_true h2, decide_eq_false h3]; rfl⟩
        have d1 : decide (0 ≤ a0) = true := decide_eq_true h1
        have d2 : decide (a0 ≤ 160) = true := decide_eq_true h2
        have d3 : decide ((l1.length : Int) ≤ 400) = false := decide_eq_false (by omega)
        clear h1 h2 h3 HC
        go_enter Try.func15, Try.ntmps15
        go_wp2_with fail
        go_ret
        exact ⟨by rw [HM.out]; rfl, HB.out⟩
    · have HM : Aside0 (mayB a0 l1 = false) := ⟨by unfold mayB; rw [decide_eq_true h1, decide_eq_false h2]; rfl⟩
      have d1 : decide (0 ≤ a0) = true := decide_eq_true h1
      have d2 : decide (a0 ≤ 160) = false := decide_eq_false h2
      clear h1 h2 HC
      go_enter Try.func15, Try.ntmps15
      go_wp2_with fail
      go_ret
      exact ⟨by rw [HM.out]; rfl, HB.out⟩
  · have HM : Aside0 (mayB a0 l1 = false) := ⟨by unfold mayB; rw [decide_eq_false h1]; rfl⟩
    have d1 : decide (0 ≤ a0) = false := decide_eq_false h1
    clear h1 HC
    go_enter Try.func15, Try.ntmps15
    go_wp2_with fail
    go_ret
    exact ⟨by rw [HM.out]; rfl, HB.out⟩
end Go.Proofs.Ytgcgnnblgimegaa.P
