/- FnObject: closed facts of its row, part 2. -/
import Derived.Test.YtmbnogellhoheaaGreatDoorRows
import Derived.WalkKit
import Derived.ProofKit
import Derived.Deep.DeepHandedRow
import Derived.JoinedCond
namespace Go.Proofs.YtmbnogellhoheaaGreatDoor
open Go
theorem jf10 : (Rows.fnObjectRow.unfollowed == Tryz.checked.prog.unfollowed 10) = true := by kernel_rfl
theorem jf11 : (Rows.fnObjectRow.recurses == Tryz.checked.prog.recurses 10) = true := by kernel_rfl
theorem jf12 : (Rows.fnObjectRow.named == Tryz.checked.prog.varsNamed 10) = true := by kernel_rfl
end Go.Proofs.YtmbnogellhoheaaGreatDoor
