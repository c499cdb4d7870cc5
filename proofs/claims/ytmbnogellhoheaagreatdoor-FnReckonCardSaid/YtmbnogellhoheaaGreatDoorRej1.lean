/- FnReckon: closed facts of its row, part 2. -/
import Derived.Test.YtmbnogellhoheaaGreatDoorRows
import Derived.WalkKit
import Derived.ProofKit
import Derived.Deep.DeepHandedRow
import Derived.JoinedCond
namespace Go.Proofs.YtmbnogellhoheaaGreatDoor
open Go
theorem jf10 : (Rows.fnReckonRow.unfollowed == Tryz.checked.prog.unfollowed 14) = true := by kernel_rfl
theorem jf11 : (Rows.fnReckonRow.recurses == Tryz.checked.prog.recurses 14) = true := by kernel_rfl
theorem jf12 : (Rows.fnReckonRow.named == Tryz.checked.prog.varsNamed 14) = true := by kernel_rfl
end Go.Proofs.YtmbnogellhoheaaGreatDoor
