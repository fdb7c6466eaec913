/- What the claim on this statement wants of the text YtaomblcecjaedaaEShaB. Not trusted: Lean checks it. -/
import Derived.Test.YtaomblcecjaedaaK4EShaA
namespace Go.Proofs.Ytaomblcecjaedaa.P
open Go.RowKit Go.Proofs.YtaomblcecjaedaaW.PrintWords Go.Proofs.YtaomblcecjaedaaW.PrintLast Go.Proofs.YtaomblcecjaedaaW.PrintMore
set_option linter.unusedVariables false
set_option linter.unusedSimpArgs false
def K64 : List Int := [1116352408, 1899447441, 3049323471, 3921009573, 961987163, 1508970993, 2453635748, 2870763221, 3624381080, 310598401, 607225278, 1426881987, 1925078388, 2162078206, 2614888103, 3248222580, 3835390401, 4022224774, 264347078, 604807628, 770255983, 1249150122, 1555081692, 1996064986, 2554220882, 2821834349, 2952996808, 3210313671, 3336571891, 3584528711, 113926993, 338241895, 666307205, 773529912, 1294757372, 1396182291, 1695183700, 1986661051, 2177026350, 2456956037, 2730485921, 2820302411, 3259730800, 3345764771, 3516065817, 3600352804, 4094571909, 275423344, 430227734, 506948616, 659060556, 883997877, 958139571, 1322822218, 1537002063, 1747873779, 1955562222, 2024104815, 2227730452, 2361852424, 2428436474, 2756734187, 3204031479, 3329325298]
theorem K64_len : K64.length = 64 := by decide
set_option maxHeartbeats 8000000 in
set_option maxRecDepth 100000 in
theorem constants_calls (w : World) :
    Calls Try.prog 60 #[] w fun e w' => e = .returned (.agg (U K64)) ∧ Below w.heap.size w w' := by
  go_enter Try.func60, Try.ntmps60
  go_wp2_with (refine wpList_store_row rfl 86 _ _ rfl w.heap.size (U K64) rfl rfl 86 _ (heap_alloc_new _ _) (by rw [U_size, K64_len]; exact size86) (by rw [U_size, K64_len]; rfl) (U_ones _) ?_)
  trace_state
  exact bodyPost_ret (v := .agg (U K64)) (results_cell_row rfl _ _ w.heap.size 86 _ (0, 0) _ rfl (setRow_heap _ _ _ _ _ _ (heap_alloc_new _ _)) Try.underlying86 rfl (by rw [U_size, K64_len]; exact size86)) rfl ⟨rfl, below_setRow ((Below.refl _ _).alloc (Nat.le_refl _) _) (Nat.le_refl _)⟩
end Go.Proofs.Ytaomblcecjaedaa.P
