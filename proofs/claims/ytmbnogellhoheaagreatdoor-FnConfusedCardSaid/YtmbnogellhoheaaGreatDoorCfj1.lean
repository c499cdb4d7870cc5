/- FnConfused: closed facts of its row, part 2. -/
import Derived.Test.YtmbnogellhoheaaGreatDoorRows
import Derived.WalkKit
import Derived.ProofKit
import Derived.Deep.DeepHandedRow
import Derived.JoinedCond
namespace Go.Proofs.YtmbnogellhoheaaGreatDoor
open Go
theorem jf10 : (Rows.fnConfusedRow.unfollowed == Tryz.checked.prog.unfollowed 5) = true := by kernel_rfl
theorem jf11 : (Rows.fnConfusedRow.recurses == Tryz.checked.prog.recurses 5) = true := by kernel_rfl
theorem jf12 : (Rows.fnConfusedRow.named == Tryz.checked.prog.varsNamed 5) = true := by kernel_rfl
end Go.Proofs.YtmbnogellhoheaaGreatDoor
