/- FnCatch: closed facts of its row, part 2. -/
import Derived.Test.YtmbnogellhoheaaGreatDoorRows
import Derived.WalkKit
import Derived.ProofKit
import Derived.Deep.DeepHandedRow
import Derived.JoinedCond
namespace Go.Proofs.YtmbnogellhoheaaGreatDoor
open Go
theorem jf10 : (Rows.fnCatchRow.unfollowed == Tryz.checked.prog.unfollowed 8) = true := by kernel_rfl
theorem jf11 : (Rows.fnCatchRow.recurses == Tryz.checked.prog.recurses 8) = true := by kernel_rfl
theorem jf12 : (Rows.fnCatchRow.named == Tryz.checked.prog.varsNamed 8) = true := by kernel_rfl
end Go.Proofs.YtmbnogellhoheaaGreatDoor
