/- FnFaults: closed facts of its row, part 2. -/
import Derived.Test.YtmbnogellhoheaaGreatDoorRows
import Derived.WalkKit
import Derived.ProofKit
import Derived.Deep.DeepHandedRow
import Derived.JoinedCond
namespace Go.Proofs.YtmbnogellhoheaaGreatDoor
open Go
theorem jf10 : (Rows.fnFaultsRow.unfollowed == Tryz.checked.prog.unfollowed 3) = true := by kernel_rfl
theorem jf11 : (Rows.fnFaultsRow.recurses == Tryz.checked.prog.recurses 3) = true := by kernel_rfl
theorem jf12 : (Rows.fnFaultsRow.named == Tryz.checked.prog.varsNamed 3) = true := by kernel_rfl
end Go.Proofs.YtmbnogellhoheaaGreatDoor
