/- FnCast: closed facts of its row, part 2. -/
import Derived.Test.YtmbnogellhoheaaGreatDoorRows
import Derived.WalkKit
import Derived.ProofKit
import Derived.Deep.DeepHandedRow
import Derived.JoinedCond
namespace Go.Proofs.YtmbnogellhoheaaGreatDoor
open Go
theorem jf10 : (Rows.fnCastRow.unfollowed == Tryz.checked.prog.unfollowed 7) = true := by kernel_rfl
theorem jf11 : (Rows.fnCastRow.recurses == Tryz.checked.prog.recurses 7) = true := by kernel_rfl
theorem jf12 : (Rows.fnCastRow.named == Tryz.checked.prog.varsNamed 7) = true := by kernel_rfl
end Go.Proofs.YtmbnogellhoheaaGreatDoor
