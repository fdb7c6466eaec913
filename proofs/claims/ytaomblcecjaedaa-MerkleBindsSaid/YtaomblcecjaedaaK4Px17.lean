/- What the claim on this statement wants of the text YtaomblcecjaedaaPx17. Not trusted: Lean checks it. -/
import Derived.Test.YtaomblcecjaedaaK4Px0
import Derived.Test.YtaomblcecjaedaaK4Px1
import Derived.Test.YtaomblcecjaedaaK4Px3
import Derived.Test.YtaomblcecjaedaaK4Px4
import Derived.Test.YtaomblcecjaedaaK4Px10
import Derived.Test.YtaomblcecjaedaaK4Px14
import Derived.Test.YtaomblcecjaedaaK4Px16
import Derived.Test.YtaomblcecjaedaaK4ERoot
namespace Go.Proofs.Ytaomblcecjaedaa.P
open Go.RowKit Go.Proofs.YtaomblcecjaedaaW.PrintWords Go.Proofs.YtaomblcecjaedaaW.PrintLast Go.Proofs.YtaomblcecjaedaaW.PrintMore
attribute [local go_sem] max2_int min2_int max_two min_two max_three min_three max_four min_four   -- for this text's walks alone
set_option linter.unusedVariables false
set_option linter.unusedSimpArgs false
def mosaiclaw03_MerkleDigests.T7 : Bool × List (List Nat × List Nat) := (true, [([], []), ([], []), ([1], [1]), ([], []), ([], []), ([4], [4]), ([], []), ([6], [6]), ([0, 2, 3, 5, 7], [0, 2, 3, 5, 7]), ([8], [8]), ([9, 8], [9]), ([10], [10]), ([11, 10], [10, 11]), ([10], [10]), ([10], [10]), ([13, 14, 10], [10, 13, 14]), ([15, 10], [10, 15]), ([16, 10, 10], [10, 16]), ([12, 17, 10], [10, 12, 17]), ([10, 18], [10, 18])])
def mosaiclaw03_MerkleDigests.B7 : List Nat := [0, 0, 2, 0, 0, 16, 0, 64, 255, 511, 1023, 2047, 4095, 2047, 2047, 26623, 59391, 124927, 262143, 524287]
theorem mosaiclaw03_MerkleDigests.tab7 : rtab .any (opsOf Try.f5 7) = mosaiclaw03_MerkleDigests.T7 := by kernel_rfl
theorem mosaiclaw03_MerkleDigests.bits7 : waitsOk mosaiclaw03_MerkleDigests.T7.2 mosaiclaw03_MerkleDigests.B7 = true := by kernel_rfl
def mosaiclaw03_MerkleDigests.T9 : Bool × List (List Nat × List Nat) := (true, [([], []), ([0], [0]), ([], []), ([2], [2]), ([], []), ([], []), ([5], [5]), ([], []), ([7], [7]), ([3, 4, 6, 8, 1], [3, 4, 6, 8]), ([1, 9, 9], [1, 9]), ([10, 10], [10]), ([11], [11]), ([12], [12]), ([12], [12]), ([12], [12]), ([13, 11, 0, 1, 2, 3, 4, 5, 6, 7, 8, 9, 10, 11, 12, 13], [13]), ([14, 16, 0, 1, 2, 3, 4, 5, 6, 7, 8, 9, 10, 11, 12, 13, 14, 16], [14]), ([15, 17, 0, 1, 2, 3, 4, 5, 6, 7, 8, 9, 10, 11, 12, 13, 14, 15, 16, 17], [15])])
def mosaiclaw03_MerkleDigests.B9 : List Nat := [0, 1, 0, 4, 0, 0, 32, 0, 128, 511, 1023, 2047, 4095, 8191, 8191, 8191, 16383, 98303, 262143]
theorem mosaiclaw03_MerkleDigests.tab9 : rtab .any (opsOf Try.f5 9) = mosaiclaw03_MerkleDigests.T9 := by kernel_rfl
theorem mosaiclaw03_MerkleDigests.bits9 : waitsOk mosaiclaw03_MerkleDigests.T9.2 mosaiclaw03_MerkleDigests.B9 = true := by kernel_rfl
end Go.Proofs.Ytaomblcecjaedaa.P
