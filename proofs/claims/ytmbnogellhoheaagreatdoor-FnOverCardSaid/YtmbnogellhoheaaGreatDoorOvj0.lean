/- FnOver: closed facts of its row, part 1. -/
import Derived.Test.YtmbnogellhoheaaGreatDoorRows
import Derived.WalkKit
import Derived.ProofKit
import Derived.Deep.DeepHandedRow
import Derived.JoinedCond
namespace Go.Proofs.YtmbnogellhoheaaGreatDoor
open Go
theorem jf0 : (Rows.fnOverRow.wf (OpenSpec.ofChange (OpenSpec.ofChange Rows.fnOverSpec).bare)) = true := by kernel_rfl
theorem jf1 : (laidOutB Tryz.checked.prog) = true := by kernel_rfl
theorem jf2 : (mapsRowed Tryz.checked.prog) = true := by kernel_rfl
theorem jf3 : (Tryz.f12.params.all (Tryz.checked.prog.readableRec ·)) = true := by kernel_rfl
theorem jf4 : (namedTie Tryz.checked.prog Rows.fnOverRow.named (OpenSpec.ofChange Rows.fnOverSpec).bare.vars) = true := by kernel_rfl
theorem jf5 : (Rows.fnOverRow.stops == []) = true := by kernel_rfl
theorem jf6 : (Tryz.checked.prog.stops == []) = true := by kernel_rfl
theorem jf7 : (Rows.fnOverRow.knobs == []) = true := by kernel_rfl
theorem jf8 : (Tryz.checked.prog.stopKnobs == []) = true := by kernel_rfl
theorem jf9 : (Rows.fnOverRow.inPlace == Tryz.checked.prog.inPlace 12) = true := by kernel_rfl
end Go.Proofs.YtmbnogellhoheaaGreatDoor
