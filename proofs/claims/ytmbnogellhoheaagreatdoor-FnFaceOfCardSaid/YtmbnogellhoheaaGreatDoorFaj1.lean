/- FnFaceOf: closed facts of its row, part 2. -/
import Derived.Test.YtmbnogellhoheaaGreatDoorRows
import Derived.WalkKit
import Derived.ProofKit
import Derived.Deep.DeepHandedRow
import Derived.JoinedCond
namespace Go.Proofs.YtmbnogellhoheaaGreatDoor
open Go
theorem jf10 : (Rows.fnFaceOfRow.unfollowed == Tryz.checked.prog.unfollowed 9) = true := by kernel_rfl
theorem jf11 : (Rows.fnFaceOfRow.recurses == Tryz.checked.prog.recurses 9) = true := by kernel_rfl
theorem jf12 : (Rows.fnFaceOfRow.named == Tryz.checked.prog.varsNamed 9) = true := by kernel_rfl
end Go.Proofs.YtmbnogellhoheaaGreatDoor
