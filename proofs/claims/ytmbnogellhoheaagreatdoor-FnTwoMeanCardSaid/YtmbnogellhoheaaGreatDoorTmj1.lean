/- FnTwoMean: closed facts of its row, part 2. -/
import Derived.Test.YtmbnogellhoheaaGreatDoorRows
import Derived.WalkKit
import Derived.ProofKit
import Derived.Deep.DeepHandedRow
import Derived.JoinedCond
namespace Go.Proofs.YtmbnogellhoheaaGreatDoor
open Go
theorem jf10 : (Rows.fnTwoMeanRow.unfollowed == Tryz.checked.prog.unfollowed 6) = true := by kernel_rfl
theorem jf11 : (Rows.fnTwoMeanRow.recurses == Tryz.checked.prog.recurses 6) = true := by kernel_rfl
theorem jf12 : (Rows.fnTwoMeanRow.named == Tryz.checked.prog.varsNamed 6) = true := by kernel_rfl
end Go.Proofs.YtmbnogellhoheaaGreatDoor
