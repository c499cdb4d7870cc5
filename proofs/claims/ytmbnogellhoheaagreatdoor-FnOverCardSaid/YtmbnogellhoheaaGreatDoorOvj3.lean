/- FnOver: closed facts of its row, part 4. -/
import Derived.Test.YtmbnogellhoheaaGreatDoorRows
import Derived.WalkKit
import Derived.ProofKit
import Derived.Deep.DeepHandedRow
import Derived.JoinedCond
namespace Go.Proofs.YtmbnogellhoheaaGreatDoor
open Go
theorem jf20 : (Rows.fnOverRow.ifacesOut == Tryz.f12.resultTypes.toList.any (Tryz.checked.prog.ifacesRec ·)) = true := by kernel_rfl
theorem jf21 : (Rows.fnOverRow.loopsOut == Tryz.f12.resultTypes.toList.any (Tryz.checked.prog.loopsFrom ·)) = true := by kernel_rfl
theorem jf22 : (Rows.fnOverRow.plainKeys == Tryz.checked.prog.plainKeys) = true := by kernel_rfl
theorem jf23 : (Rows.fnOverRow.shortTexts.isNone) = true := by kernel_rfl
theorem jf24 : (Tryz.checked.prog.stopsHeard) = true := by kernel_rfl
theorem jf25 : (Tryz.checked.prog.mayEnter) = true := by kernel_rfl
theorem jf26 : (Rows.fnOverRow.lifted == Tryz.checked.prog.liftsFinal) = true := by kernel_rfl
theorem jf27 : (Tryz.checked.prog.make == some Rows.fnOverRow.make) = true := by kernel_rfl
theorem jf28 : (Rows.fnOverRow.kinds == (if Rows.fnOverRow.domain.isEmpty then [] else Tryz.f12.params.toList.map fun t => match Tryz.checked.prog.underlying t with | some (.int k) => some k | _ => none)) = true := by kernel_rfl
theorem jf29 : (Rows.fnOverRow.pinned == Rows.fnOverRow.pinnedBy) = true := by kernel_rfl
theorem jf30 : (Rows.fnOverRow.veiled == (Tryz.f12.params.toList ++ (OpenSpec.ofChange Rows.fnOverSpec).bare.plain.varTypes Tryz.checked.prog ++ Tryz.f12.resultTypes.toList).any (Tryz.checked.prog.veiledRec ·)) = true := by kernel_rfl
theorem jf31 : (Rows.fnOverRow.veiledFits Tryz.checked.prog Tryz.f12.params.toList (Tryz.f12.params.toList ++ (OpenSpec.ofChange Rows.fnOverSpec).bare.plain.varTypes Tryz.checked.prog ++ Tryz.f12.resultTypes.toList)) = true := by kernel_rfl
end Go.Proofs.YtmbnogellhoheaaGreatDoor
