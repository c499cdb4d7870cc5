/- FnConfused: closed facts of its row, part 1. -/
import Derived.Test.YtmbnogellhoheaaGreatDoorRows
import Derived.WalkKit
import Derived.ProofKit
import Derived.Deep.DeepHandedRow
import Derived.JoinedCond
namespace Go.Proofs.YtmbnogellhoheaaGreatDoor
open Go
theorem jf0 : (Rows.fnConfusedRow.wf (OpenSpec.ofChange (OpenSpec.ofChange Rows.fnConfusedSpec).bare)) = true := by kernel_rfl
theorem jf1 : (laidOutB Tryz.checked.prog) = true := by kernel_rfl
theorem jf2 : (mapsRowed Tryz.checked.prog) = true := by kernel_rfl
theorem jf3 : (Tryz.f5.params.all (Tryz.checked.prog.readableRec ·)) = true := by kernel_rfl
theorem jf4 : (namedTie Tryz.checked.prog Rows.fnConfusedRow.named (OpenSpec.ofChange Rows.fnConfusedSpec).bare.vars) = true := by kernel_rfl
theorem jf5 : (Rows.fnConfusedRow.stops == []) = true := by kernel_rfl
theorem jf6 : (Tryz.checked.prog.stops == []) = true := by kernel_rfl
theorem jf7 : (Rows.fnConfusedRow.knobs == []) = true := by kernel_rfl
theorem jf8 : (Tryz.checked.prog.stopKnobs == []) = true := by kernel_rfl
theorem jf9 : (Rows.fnConfusedRow.inPlace == Tryz.checked.prog.inPlace 5) = true := by kernel_rfl
end Go.Proofs.YtmbnogellhoheaaGreatDoor
