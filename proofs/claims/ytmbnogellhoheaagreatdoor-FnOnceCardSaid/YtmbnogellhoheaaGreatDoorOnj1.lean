/- FnOnce: closed facts of its row, part 2. -/
import Derived.Test.YtmbnogellhoheaaGreatDoorRows
import Derived.WalkKit
import Derived.ProofKit
import Derived.Deep.DeepHandedRow
import Derived.JoinedCond
namespace Go.Proofs.YtmbnogellhoheaaGreatDoor
open Go
theorem jf10 : (Rows.fnOnceRow.unfollowed == Tryz.checked.prog.unfollowed 11) = true := by kernel_rfl
theorem jf11 : (Rows.fnOnceRow.recurses == Tryz.checked.prog.recurses 11) = true := by kernel_rfl
theorem jf12 : (Rows.fnOnceRow.named == Tryz.checked.prog.varsNamed 11) = true := by kernel_rfl
end Go.Proofs.YtmbnogellhoheaaGreatDoor
