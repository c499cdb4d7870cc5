/- FnLoop: closed facts of its row, part 4. -/
import Derived.Test.YtmbnogellhoheaaGreatDoorRows
import Derived.WalkKit
import Derived.ProofKit
import Derived.Deep.DeepHandedRow
import Derived.JoinedCond
namespace Go.Proofs.YtmbnogellhoheaaGreatDoor
open Go
theorem jf20 : (Rows.fnLoopRow.ifacesOut == Tryz.f4.resultTypes.toList.any (Tryz.checked.prog.ifacesRec ·)) = true := by kernel_rfl
theorem jf21 : (Rows.fnLoopRow.loopsOut == Tryz.f4.resultTypes.toList.any (Tryz.checked.prog.loopsFrom ·)) = true := by kernel_rfl
theorem jf22 : (Rows.fnLoopRow.plainKeys == Tryz.checked.prog.plainKeys) = true := by kernel_rfl
theorem jf23 : (Rows.fnLoopRow.shortTexts.isNone) = true := by kernel_rfl
theorem jf24 : (Tryz.checked.prog.stopsHeard) = true := by kernel_rfl
theorem jf25 : (Tryz.checked.prog.mayEnter) = true := by kernel_rfl
theorem jf26 : (Rows.fnLoopRow.lifted == Tryz.checked.prog.liftsFinal) = true := by kernel_rfl
theorem jf27 : (Tryz.checked.prog.make == some Rows.fnLoopRow.make) = true := by kernel_rfl
theorem jf28 : (Rows.fnLoopRow.kinds == (if Rows.fnLoopRow.domain.isEmpty then [] else Tryz.f4.params.toList.map fun t => match Tryz.checked.prog.underlying t with | some (.int k) => some k | _ => none)) = true := by kernel_rfl
theorem jf29 : (Rows.fnLoopRow.pinned == Rows.fnLoopRow.pinnedBy) = true := by kernel_rfl
theorem jf30 : (Rows.fnLoopRow.veiled == (Tryz.f4.params.toList ++ (OpenSpec.ofChange Rows.fnLoopSpec).bare.plain.varTypes Tryz.checked.prog ++ Tryz.f4.resultTypes.toList).any (Tryz.checked.prog.veiledRec ·)) = true := by kernel_rfl
theorem jf31 : (Rows.fnLoopRow.veiledFits Tryz.checked.prog Tryz.f4.params.toList (Tryz.f4.params.toList ++ (OpenSpec.ofChange Rows.fnLoopSpec).bare.plain.varTypes Tryz.checked.prog ++ Tryz.f4.resultTypes.toList)) = true := by kernel_rfl
end Go.Proofs.YtmbnogellhoheaaGreatDoor
