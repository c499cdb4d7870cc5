/- FnTwoMean: closed facts of its row, part 1. -/
import Derived.Test.YtmbnogellhoheaaGreatDoorRows
import Derived.WalkKit
import Derived.ProofKit
import Derived.Deep.DeepHandedRow
import Derived.JoinedCond
namespace Go.Proofs.YtmbnogellhoheaaGreatDoor
open Go
theorem jf0 : (Rows.fnTwoMeanRow.wf (OpenSpec.ofChange (OpenSpec.ofChange Rows.fnTwoMeanSpec).bare)) = true := by kernel_rfl
theorem jf1 : (laidOutB Tryz.checked.prog) = true := by kernel_rfl
theorem jf2 : (mapsRowed Tryz.checked.prog) = true := by kernel_rfl
theorem jf3 : (Tryz.f6.params.all (Tryz.checked.prog.readableRec ·)) = true := by kernel_rfl
theorem jf4 : (namedTie Tryz.checked.prog Rows.fnTwoMeanRow.named (OpenSpec.ofChange Rows.fnTwoMeanSpec).bare.vars) = true := by kernel_rfl
theorem jf5 : (Rows.fnTwoMeanRow.stops == []) = true := by kernel_rfl
theorem jf6 : (Tryz.checked.prog.stops == []) = true := by kernel_rfl
theorem jf7 : (Rows.fnTwoMeanRow.knobs == []) = true := by kernel_rfl
theorem jf8 : (Tryz.checked.prog.stopKnobs == []) = true := by kernel_rfl
theorem jf9 : (Rows.fnTwoMeanRow.inPlace == Tryz.checked.prog.inPlace 6) = true := by kernel_rfl
end Go.Proofs.YtmbnogellhoheaaGreatDoor
