/- FnPrivate: closed facts of its row, part 2. -/
import Derived.Test.YtmbnogellhoheaaGreatDoorRows
import Derived.WalkKit
import Derived.ProofKit
import Derived.Deep.DeepHandedRow
import Derived.JoinedCond
namespace Go.Proofs.YtmbnogellhoheaaGreatDoor
open Go
theorem jf10 : (Rows.fnPrivateRow.unfollowed == Tryz.checked.prog.unfollowed 13) = true := by kernel_rfl
theorem jf11 : (Rows.fnPrivateRow.recurses == Tryz.checked.prog.recurses 13) = true := by kernel_rfl
theorem jf12 : (Rows.fnPrivateRow.named == Tryz.checked.prog.varsNamed 13) = true := by kernel_rfl
end Go.Proofs.YtmbnogellhoheaaGreatDoor
