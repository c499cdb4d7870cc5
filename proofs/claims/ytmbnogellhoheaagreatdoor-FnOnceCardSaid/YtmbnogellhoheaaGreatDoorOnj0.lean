/- FnOnce: closed facts of its row, part 1. -/
import Derived.Test.YtmbnogellhoheaaGreatDoorRows
import Derived.WalkKit
import Derived.ProofKit
import Derived.Deep.DeepHandedRow
import Derived.JoinedCond
namespace Go.Proofs.YtmbnogellhoheaaGreatDoor
open Go
theorem jf0 : (Rows.fnOnceRow.wf (OpenSpec.ofChange (OpenSpec.ofChange Rows.fnOnceSpec).bare)) = true := by kernel_rfl
theorem jf1 : (laidOutB Tryz.checked.prog) = true := by kernel_rfl
theorem jf2 : (mapsRowed Tryz.checked.prog) = true := by kernel_rfl
theorem jf3 : (Tryz.f11.params.all (Tryz.checked.prog.readableRec ·)) = true := by kernel_rfl
theorem jf4 : (namedTie Tryz.checked.prog Rows.fnOnceRow.named (OpenSpec.ofChange Rows.fnOnceSpec).bare.vars) = true := by kernel_rfl
theorem jf5 : (Rows.fnOnceRow.stops == []) = true := by kernel_rfl
theorem jf6 : (Tryz.checked.prog.stops == []) = true := by kernel_rfl
theorem jf7 : (Rows.fnOnceRow.knobs == []) = true := by kernel_rfl
theorem jf8 : (Tryz.checked.prog.stopKnobs == []) = true := by kernel_rfl
theorem jf9 : (Rows.fnOnceRow.inPlace == Tryz.checked.prog.inPlace 11) = true := by kernel_rfl
end Go.Proofs.YtmbnogellhoheaaGreatDoor
