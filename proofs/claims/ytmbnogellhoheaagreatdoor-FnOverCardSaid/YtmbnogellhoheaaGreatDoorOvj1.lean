/- FnOver: closed facts of its row, part 2. -/
import Derived.Test.YtmbnogellhoheaaGreatDoorRows
import Derived.WalkKit
import Derived.ProofKit
import Derived.Deep.DeepHandedRow
import Derived.JoinedCond
namespace Go.Proofs.YtmbnogellhoheaaGreatDoor
open Go
theorem jf10 : (Rows.fnOverRow.unfollowed == Tryz.checked.prog.unfollowed 12) = true := by kernel_rfl
theorem jf11 : (Rows.fnOverRow.recurses == Tryz.checked.prog.recurses 12) = true := by kernel_rfl
theorem jf12 : (Rows.fnOverRow.named == Tryz.checked.prog.varsNamed 12) = true := by kernel_rfl
end Go.Proofs.YtmbnogellhoheaaGreatDoor
