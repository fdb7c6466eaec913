/- What the claim on this statement wants of the text YtaomblcecjaedaaPx18. Not trusted: Lean checks it. -/
import Derived.Test.YtaomblcecjaedaaK3Px0
import Derived.Test.YtaomblcecjaedaaK3Px1
import Derived.Test.YtaomblcecjaedaaK3Px3
import Derived.Test.YtaomblcecjaedaaK3Px4
import Derived.Test.YtaomblcecjaedaaK3Px10
import Derived.Test.YtaomblcecjaedaaK3Px7
import Derived.Test.YtaomblcecjaedaaK3EFolds
import Derived.Test.YtaomblcecjaedaaK3Px14
import Derived.Test.YtaomblcecjaedaaK3Px16
import Derived.Test.YtaomblcecjaedaaK3ERoot
namespace Go.Proofs.Ytaomblcecjaedaa.P
open Go.RowKit Go.Proofs.YtaomblcecjaedaaW.PrintWords Go.Proofs.YtaomblcecjaedaaW.PrintLast Go.Proofs.YtaomblcecjaedaaW.PrintMore
attribute [local go_sem] max2_int min2_int max_two min_two max_three min_three max_four min_four   -- for this text's walks alone
set_option linter.unusedVariables false
set_option linter.unusedSimpArgs false
def mosaiclaw03_MerkleBinds.T7 : Bool × List (List Nat × List Nat) := (true, [([], []), ([], []), ([1], [1]), ([], []), ([], []), ([4], [4]), ([5], [5]), ([], []), ([7], [7]), ([0, 2, 3, 6, 8, 6], [0, 2, 3, 6, 8]), ([9], [9]), ([10, 9], [10]), ([11], [11]), ([12, 11], [11, 12]), ([11], [11]), ([11], [11]), ([14, 15, 11], [11, 14, 15]), ([16, 11], [11, 16]), ([13, 17, 11], [11, 13, 17]), ([11, 18], [11, 18])])
def mosaiclaw03_MerkleBinds.B7 : List Nat := [0, 0, 2, 0, 0, 16, 48, 0, 128, 511, 1023, 2047, 4095, 8191, 4095, 4095, 53247, 118783, 262143, 524287]
theorem mosaiclaw03_MerkleBinds.tab7 : rtab .any (opsOf Try.f6 7) = mosaiclaw03_MerkleBinds.T7 := by kernel_rfl
theorem mosaiclaw03_MerkleBinds.bits7 : waitsOk mosaiclaw03_MerkleBinds.T7.2 mosaiclaw03_MerkleBinds.B7 = true := by kernel_rfl
def mosaiclaw03_MerkleBinds.T9 : Bool × List (List Nat × List Nat) := (true, [([], []), ([0], [0]), ([], []), ([2], [2]), ([], []), ([], []), ([5], [5]), ([], []), ([7], [7]), ([3, 4, 6, 8, 1], [3, 4, 6, 8]), ([1, 9, 9], [1, 9]), ([10, 10], [10]), ([11], [11]), ([12], [12]), ([12], [12]), ([12], [12]), ([13, 11, 0, 1, 2, 3, 4, 5, 6, 7, 8, 9, 10, 11, 12, 13], [13]), ([14, 16, 0, 1, 2, 3, 4, 5, 6, 7, 8, 9, 10, 11, 12, 13, 14, 16], [14]), ([15, 17, 0, 1, 2, 3, 4, 5, 6, 7, 8, 9, 10, 11, 12, 13, 14, 15, 16, 17], [15])])
def mosaiclaw03_MerkleBinds.B9 : List Nat := [0, 1, 0, 4, 0, 0, 32, 0, 128, 511, 1023, 2047, 4095, 8191, 8191, 8191, 16383, 98303, 262143]
theorem mosaiclaw03_MerkleBinds.tab9 : rtab .any (opsOf Try.f6 9) = mosaiclaw03_MerkleBinds.T9 := by kernel_rfl
theorem mosaiclaw03_MerkleBinds.bits9 : waitsOk mosaiclaw03_MerkleBinds.T9.2 mosaiclaw03_MerkleBinds.B9 = true := by kernel_rfl
end Go.Proofs.Ytaomblcecjaedaa.P
