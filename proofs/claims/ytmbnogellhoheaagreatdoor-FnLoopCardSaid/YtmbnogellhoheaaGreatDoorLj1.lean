/- FnLoop: closed facts of its row, part 2. -/
import Derived.Test.YtmbnogellhoheaaGreatDoorRows
import Derived.WalkKit
import Derived.ProofKit
import Derived.Deep.DeepHandedRow
import Derived.JoinedCond
namespace Go.Proofs.YtmbnogellhoheaaGreatDoor
open Go
theorem jf10 : (Rows.fnLoopRow.unfollowed == Tryz.checked.prog.unfollowed 4) = true := by kernel_rfl
theorem jf11 : (Rows.fnLoopRow.recurses == Tryz.checked.prog.recurses 4) = true := by kernel_rfl
theorem jf12 : (Rows.fnLoopRow.named == Tryz.checked.prog.varsNamed 4) = true := by kernel_rfl
end Go.Proofs.YtmbnogellhoheaaGreatDoor
