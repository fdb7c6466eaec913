/- What the claim on this statement wants of the text YtomhhbjebgghnaaENet2. Not trusted: Lean checks it. -/
import Derived.Test.YtomhhbjebgghnaaN3ENet
namespace Go.Proofs.Ytomhhbjebgghnaa.P
open Go.RowKit Go.Proofs.YtomhhbjebgghnaaW.PrintWords Go.Proofs.YtomhhbjebgghnaaW.PrintLast Go.Proofs.YtomhhbjebgghnaaW.PrintMore
open Go.Proofs.Ytomhhbjebgghnaa.Emap
set_option linter.unusedVariables false
set_option linter.unusedSimpArgs false
theorem only_one {κ β : Type} {M : List (κ × β)} (hn : (M.map (·.1)).Nodup) {k : κ} {x y : β} (hx : (k, x) ∈ M) (hy : (k, y) ∈ M) : x = y := by
  induction M with
  | nil => cases hx
  | cons p M ih =>
    obtain ⟨h1, h2⟩ := List.nodup_cons.1 (by simpa using hn : (p.1 :: M.map (·.1)).Nodup)
    rcases List.mem_cons.1 hx with e | hx'
    · rcases List.mem_cons.1 hy with e' | hy'
      · rw [← e] at e'; exact (congrArg Prod.snd e').symm
      · exact absurd (List.mem_map.2 ⟨(k, y), hy', by rw [← e]⟩) h1
    · rcases List.mem_cons.1 hy with e' | hy'
      · exact absurd (List.mem_map.2 ⟨(k, x), hx', by rw [← e']⟩) h1
      · exact ih h2 hx' hy'
theorem results_cell_tmp {P : Program} {fn : Func} {p u : Tmp} {ty : TypeId} (h : fn.results = #[.cell p ty, .tmp u]) (tmps : Array Value) (w : World) (g : Nat) (t : TypeId) (cs : Array Value) (fr : Nat × Nat) (d : TypeDesc) (v : Value)
    (hp : tmps.getD p undef = .pointer (some ⟨g, 0, none⟩)) (hv : tmps.getD u undef = v) (hg : w.heap[g]? = some (.cells cs t fr))
    (hu : P.underlying ty = some d) (hd : (match d with | .struct _ | .array _ _ => true | _ => false) = true) (hi : (P.info? ty).map (·.size) = some cs.size) :
    (results fn tmps).run P w = .ok (.tuple #[.agg cs, v]) w := by
  have hp' : tmps[p]?.getD undef = .pointer (some ⟨g, 0, none⟩) := by simpa using hp
  have hv' : tmps[u]?.getD undef = v := by simpa using hv
  simp [results, h, hp', hv', asAddr, run_loadVar_row w g t ty cs fr d hg hu hd hi]
theorem size29 : (Try.prog.info? 29).map (·.size) = some 3 := by kernel_rfl
def zG : S29 := ⟨0, 0, ⟨#[]⟩⟩
theorem zeroG (w : World) : (zeroValue 29).run Try.prog w = .ok (gV zG) w := by kernel_rfl
set_option maxHeartbeats 1000000 in
set_option maxRecDepth 100000 in
theorem find_some (g b : Nat) (room last : Int) (M : List (Int × S29)) (id : Int) (hid : kGood id) (x : S29) (w : World) (hn : NetAt w g b room last M) (hx : (id, x) ∈ M) :
    Calls Try.prog 30 #[.pointer (some ⟨g, 0, none⟩), .int .i64 id] w fun e w' => e = .returned (.tuple #[gV x, .int .i64 0]) ∧ Below w.heap.size w w' := by
  obtain ⟨W, hW⟩ : ∃ W, W = w.alloc (.cells #[.int .i64 0, .int .i64 0, .string ⟨#[]⟩] 29) := ⟨_, rfl⟩
  have hb1 : Below w.heap.size w W := by rw [hW]; exact below_alloc (Below.refl w.heap.size w) _
  have hN := hn.later hb1
  obtain ⟨es, clock, hm, he⟩ := hN.map
  have hrun : (Instr.lookup 63 (.map (some b)) (.int .i64 id) true).run Try.prog W = .ok (.tuple #[.agg #[.int .i64 x.f0, .int .i64 x.f1, .string x.f2], .bool true]) W := by
    rcases lookup_ok he kOk Try.underlying63 hm hid (zeroG W) true with ⟨_, h2⟩ | ⟨y, hy, h2⟩
    · exact absurd rfl (h2 _ hx)
    · have : y = x := only_one he.keys hy hx
      rw [this] at h2
      exact h2
  have hx4 : W.heap[w.heap.size]? = some (.cells #[.int .i64 0, .int .i64 0, .string ⟨#[]⟩] 29 (0, 0)) := by rw [hW]; exact heap_alloc_new _ _
  obtain ⟨z0, z1, z2, zf⟩ := cell3n hx4
  obtain ⟨c0, c1, c2, cf⟩ := cell3n hN.box
  have HB := Aside0.mk hb1
  have HX4 := Aside0.mk hx4
  clear hn hN hb1 hm he hx hx4
  obtain ⟨g4, hg4⟩ : ∃ g4, g4 = w.heap.size := ⟨_, rfl⟩
  rw [← hg4] at z0 z1 z2 zf HX4
  have hgl : g4 < W.heap.size := by rw [hW, hg4]; show w.heap.size < (w.heap.push _).size; simp
  go_enter Try.func30, Try.ntmps30
  go_upto_region 1 with (fail)
  rw [← hg4, ← hW]
  have HG4 : Aside0 (w.heap.size ≤ g4) := ⟨by rw [hg4]; exact Nat.le_refl _⟩
  clear hg4 hW
  go_wp2_with fail
  exact bodyPost_ret (v := .tuple #[gV x, .int .i64 0]) (results_cell_tmp rfl _ _ g4 29 #[.int .i64 x.f0, .int .i64 x.f1, .string x.f2] (0, 0) _ _ rfl rfl ((heap_alloc_old _ _ _ (by simp [World.setCell]; exact hgl)).trans (blk_put (blk_put (blk_put HX4.out 0 _ rfl) 1 _ rfl) 2 _ rfl)) Try.underlying29 rfl size29) rfl
    ⟨rfl, below_alloc (below_set (below_set (below_set HB.out HG4.out) HG4.out) HG4.out) _⟩
set_option maxHeartbeats 1000000 in
set_option maxRecDepth 100000 in
theorem find_none (g b : Nat) (room last : Int) (M : List (Int × S29)) (id : Int) (hid : kGood id) (w : World) (hn : NetAt w g b room last M) (hx : ∀ p ∈ M, p.1 ≠ id) :
    Calls Try.prog 30 #[.pointer (some ⟨g, 0, none⟩), .int .i64 id] w fun e w' => e = .returned (.tuple #[gV zG, .int .i64 4]) ∧ Below w.heap.size w w' := by
  obtain ⟨W, hW⟩ : ∃ W, W = w.alloc (.cells #[.int .i64 0, .int .i64 0, .string ⟨#[]⟩] 29) := ⟨_, rfl⟩
  have hb1 : Below w.heap.size w W := by rw [hW]; exact below_alloc (Below.refl w.heap.size w) _
  have hN := hn.later hb1
  obtain ⟨es, clock, hm, he⟩ := hN.map
  have hrun : (Instr.lookup 63 (.map (some b)) (.int .i64 id) true).run Try.prog W = .ok (.tuple #[.agg #[.int .i64 0, .int .i64 0, .string ⟨#[]⟩], .bool false]) W := by
    rcases lookup_ok he kOk Try.underlying63 hm hid (zeroG W) true with ⟨h1, _⟩ | ⟨y, hy, h2⟩
    · exact h1
    · exact absurd rfl (hx _ hy)
  have hx4 : W.heap[w.heap.size]? = some (.cells #[.int .i64 0, .int .i64 0, .string ⟨#[]⟩] 29 (0, 0)) := by rw [hW]; exact heap_alloc_new _ _
  obtain ⟨z0, z1, z2, zf⟩ := cell3n hx4
  obtain ⟨c0, c1, c2, cf⟩ := cell3n hN.box
  have HB := Aside0.mk hb1
  have HX4 := Aside0.mk hx4
  clear hn hN hb1 hm he hx hx4
  obtain ⟨g4, hg4⟩ : ∃ g4, g4 = w.heap.size := ⟨_, rfl⟩
  rw [← hg4] at z0 z1 z2 zf HX4
  have hgl : g4 < W.heap.size := by rw [hW, hg4]; show w.heap.size < (w.heap.push _).size; simp
  go_enter Try.func30, Try.ntmps30
  go_upto_region 1 with (fail)
  rw [← hg4, ← hW]
  have HG4 : Aside0 (w.heap.size ≤ g4) := ⟨by rw [hg4]; exact Nat.le_refl _⟩
  clear hg4 hW
  go_wp2_with fail
  exact bodyPost_ret (v := .tuple #[gV zG, .int .i64 4]) (results_cell_tmp rfl _ _ g4 29 #[.int .i64 0, .int .i64 0, .string ⟨#[]⟩] (0, 0) _ _ rfl rfl ((heap_alloc_old _ _ _ (by simp [World.setCell]; exact hgl)).trans (blk_put (blk_put (blk_put HX4.out 0 _ rfl) 1 _ rfl) 2 _ rfl)) Try.underlying29 rfl size29) rfl
    ⟨rfl, below_alloc (below_set (below_set (below_set HB.out HG4.out) HG4.out) HG4.out) _⟩
set_option maxHeartbeats 1000000 in
theorem len_calls (g b : Nat) (room last : Int) (M : List (Int × S29)) (w : World) (hn : NetAt w g b room last M) : Calls Try.prog 14 #[.pointer (some ⟨g, 0, none⟩)] w fun e w' => e = .returned (.int .i64 M.length) ∧ w = w' := by
  have hl := len_all hn 0
  rw [show w.drewN 0 = w from rfl] at hl
  obtain ⟨c0, c1, c2, cf⟩ := cell3n hn.box
  clear hn
  go_enter Try.func14, Try.ntmps14
  go_wp2_with fail
  go_ret
  exact ⟨rfl, rfl⟩
end Go.Proofs.Ytomhhbjebgghnaa.P
