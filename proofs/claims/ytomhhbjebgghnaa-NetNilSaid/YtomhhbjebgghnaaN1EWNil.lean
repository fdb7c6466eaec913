/- What the claim on this statement wants of the text YtomhhbjebgghnaaEWNil. Not trusted: Lean checks it. -/
import Derived.Test.YtomhhbjebgghnaaN1ENet8
namespace Go.Proofs.Ytomhhbjebgghnaa.P
open Go.RowKit Go.Proofs.YtomhhbjebgghnaaW.PrintWords Go.Proofs.YtomhhbjebgghnaaW.PrintLast Go.Proofs.YtomhhbjebgghnaaW.PrintMore
open Go.Proofs.Ytomhhbjebgghnaa.Emap
set_option linter.unusedVariables false
set_option linter.unusedSimpArgs false
theorem list_nil' (w : World) : Calls Try.prog 24 #[.pointer none] w fun e w' => e = .returned (.slice none 0 0) ∧ Below w.heap.size w w' := by
  have HI := Aside0.mk (ids_nil (.func (.func 32) #[] #[]))
  go_enter Try.func24, Try.ntmps24
  go_wp2_with fail
  refine (HI.out _).mono ?_
  rintro e w' ⟨rfl, rfl⟩
  go_wp2_with fail
  refine wp_loop_rounds 1 ?_
  rw [rounds_succ]
  go_wp2_with fail
  go_ret
  exact ⟨rfl, Below.refl _ _⟩
theorem eqZ (w : World) : (Op.equalIn 10000 29 (.agg #[.int .i64 0, .int .i64 0, .string ⟨#[]⟩]) (.agg #[.int .i64 0, .int .i64 0, .string ⟨#[]⟩])).run Try.prog w = .ok true w := by kernel_rfl
theorem cell5 {w : World} {g : Nat} {a b c d e : Value} {t : TypeId} (h : w.heap[g]? = some (.cells #[a, b, c, d, e] t (0, 0))) :
    w.cell? ⟨g, 0, none⟩ = some a ∧ w.cell? ⟨g, 1, none⟩ = some b ∧ w.cell? ⟨g, 2, none⟩ = some c ∧ w.cell? ⟨g, 3, none⟩ = some d ∧ w.cell? ⟨g, 4, none⟩ = some e := by
  refine ⟨?_, ?_, ?_, ?_, ?_⟩ <;> simp only [World.cell?, h] <;> rfl
set_option maxHeartbeats 1000000 in
set_option maxRecDepth 100000 in
theorem netNil_calls (kind id : Int) (x : S29) (hid : kGood id) (hs : x.f2.size ≤ 9223372036854775807) (w : World) :
    Calls Try.prog 6 #[.agg #[.int .i64 kind, .int .i64 id, .int .i64 x.f0, .int .i64 x.f1, .string x.f2]] w fun e w' => e = .returned (.bool true) ∧ Below w.heap.size w w' := by
  have HA := Aside0.mk awake_calls
  by_cases hx : x.f2.size ≤ 500
  · have hx' : ¬ (500 : Int) < x.f2.size := by omega
    obtain ⟨W, hW⟩ : ∃ W, W = w.alloc (.cells #[.int .i64 kind, .int .i64 id, .int .i64 x.f0, .int .i64 x.f1, .string x.f2] 40) := ⟨_, rfl⟩
    obtain ⟨g1, hg1⟩ : ∃ g1, g1 = w.heap.size := ⟨_, rfl⟩
    have HX := Aside0.mk (show W.heap[g1]? = some (.cells #[.int .i64 kind, .int .i64 id, .int .i64 x.f0, .int .i64 x.f1, .string x.f2] 40 (0, 0)) by rw [hW, hg1]; exact heap_alloc_new _ _)
    have HB := Aside0.mk (show Below w.heap.size w W by rw [hW]; exact below_alloc (Below.refl _ w) _)
    obtain ⟨c0, c1, c2, c3, c4⟩ := cell5 HX.out
    have HS := Aside0.mk (fun w => send_nil x w)
    rw [show gV x = .agg #[.int .i64 x.f0, .int .i64 x.f1, .string x.f2] from rfl] at HS
    have HT := Aside0.mk (fun w => take_nil id w)
    rw [show gV zG = .agg #[.int .i64 0, .int .i64 0, .string ⟨#[]⟩] from rfl] at HT
    have hq := eqZ
    clear hx hid
    go_enter Try.func6, Try.ntmps6
    go_upto_region 1 with (fail)
    rw [← hg1, ← hW]
    clear hg1 hW
    go_wp2_with fail
    refine (HS.out _).mono ?_
    rintro e w1 ⟨rfl, hb1⟩
    have HB1 := Aside0.mk (below_step HB.out hb1)
    have HX1 := Aside0.mk ((hb1.block g1 (Array.getElem?_eq_some_iff.1 HX.out).1).trans HX.out)
    clear c0 c1 c2 c3 c4 hb1
    obtain ⟨c0, c1, c2, c3, c4⟩ := cell5 HX1.out
    go_wp2_with fail
    refine (HT.out _).mono ?_
    rintro e w2 ⟨rfl, hb2⟩
    obtain ⟨W3, hW3⟩ : ∃ W3, W3 = w2.alloc (.cells #[.int .i64 0, .int .i64 0, .string ⟨#[]⟩] 29) := ⟨_, rfl⟩
    obtain ⟨g6, hg6⟩ : ∃ g6, g6 = w2.heap.size := ⟨_, rfl⟩
    have hb3 : Below w1.heap.size w1 W3 := by rw [hW3]; exact below_alloc hb2 _
    have HB3 := Aside0.mk (below_step HB1.out hb3)
    have HX3 := Aside0.mk ((hb3.block g1 (Array.getElem?_eq_some_iff.1 HX1.out).1).trans HX1.out)
    have HZ3 := Aside0.mk (show W3.heap[g6]? = some (.cells #[.int .i64 0, .int .i64 0, .string ⟨#[]⟩] 29 (0, 0)) by rw [hW3, hg6]; exact heap_alloc_new _ _)
    clear c0 c1 c2 c3 c4 hb2 hb3
    obtain ⟨c0, c1, c2, c3, c4⟩ := cell5 HX3.out
    go_upto_region 6 with (fail)
    rw [← hg6, ← hW3]
    clear hg6 hW3
    go_wp2_with fail
    refine (twice_nil _ _).mono ?_
    rintro e w4 ⟨rfl, hb4⟩
    have HB4 := Aside0.mk (below_step HB3.out hb4)
    have HX4 := Aside0.mk ((hb4.block g1 (Array.getElem?_eq_some_iff.1 HX3.out).1).trans HX3.out)
    have HZ4 := Aside0.mk ((hb4.block g6 (Array.getElem?_eq_some_iff.1 HZ3.out).1).trans HZ3.out)
    clear c0 c1 c2 c3 c4 hb4
    obtain ⟨c0, c1, c2, c3, c4⟩ := cell5 HX4.out
    obtain ⟨z0, z1, z2, -⟩ := cell3n HZ4.out
    have HD0 := Aside0.mk (below_drew1 (Below.refl w4.heap.size w4))
    go_wp2_with fail
    go_region_held3 (fun w' : World => w'.cell? ⟨g1, 1, none⟩ = some (.int .i64 id) ∧ w'.cell? ⟨g6, 0, none⟩ = some (.int .i64 0) ∧ w'.cell? ⟨g6, 1, none⟩ = some (.int .i64 0) ∧ w'.cell? ⟨g6, 2, none⟩ = some (.string ⟨#[]⟩)) (first | exact ⟨‹_›, ‹_›, ‹_›, ‹_›⟩ | go_keep) (first | (go_at_call 8; refine (HA.out _).mono ?_; rintro e wa ⟨rfl, hba⟩; have HD1 := Aside0.mk (below_step HD0.out hba); have a1 := pw_cell_below HD1.out c1; have a2 := pw_cell_below HD1.out z0; have a3 := pw_cell_below HD1.out z1; have a4 := pw_cell_below HD1.out z2; clear hba) | (go_at_call 13; refine (nth_nil _ _).mono ?_; rintro e wb ⟨rfl, rfl⟩) | (go_at_call 14; refine (len_nil _).mono ?_; rintro e wb ⟨rfl, rfl⟩) | (go_at_call 16; refine (lose_nil _ _).mono ?_; rintro e wd ⟨rfl, hbd⟩; have HD2 := Aside0.mk (below_step HD1.out hbd); have b1 := pw_cell_below HD2.out c1; have b2 := pw_cell_below HD2.out z0; have b3 := pw_cell_below HD2.out z1; have b4 := pw_cell_below HD2.out z2; clear hbd) | (go_at_call 24; refine (list_nil' _).mono ?_; rintro e we ⟨rfl, hbe⟩; have HD3 := Aside0.mk (below_step HD2.out hbe); have f1 := pw_cell_below HD3.out c1; have f2 := pw_cell_below HD3.out z0; have f3 := pw_cell_below HD3.out z1; have f4 := pw_cell_below HD3.out z2; clear hbe) | (go_at_call 26; refine (to_nil _ _).mono ?_; rintro e wf ⟨rfl, hbf⟩; have HD4 := Aside0.mk (below_step HD3.out hbf); have h1 := pw_cell_below HD4.out c1; have h2 := pw_cell_below HD4.out z0; have h3 := pw_cell_below HD4.out z1; have h4 := pw_cell_below HD4.out z2; clear hbf))
    go_wp2_with fail
    go_ret
    exact ⟨rfl, below_step HB4.out HD4.out⟩
  · have hx' : (500 : Int) < x.f2.size := by omega
    clear hx hid
    go_enter Try.func6, Try.ntmps6
    go_wp2_with fail
    refine (HA.out _).mono ?_
    rintro e w1 ⟨rfl, hb⟩
    have HB := Aside0.mk (below_step (below_alloc (Below.refl _ w) _) hb)
    clear hb
    go_wp2_with fail
    go_ret
    exact ⟨rfl, HB.out⟩
end Go.Proofs.Ytomhhbjebgghnaa.P
