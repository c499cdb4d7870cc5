/- FnPrivate: closed facts of its row, part 4. -/
import Derived.Test.YtmbnogellhoheaaGreatDoorRows
import Derived.WalkKit
import Derived.ProofKit
import Derived.Deep.DeepHandedRow
import Derived.JoinedCond
namespace Go.Proofs.YtmbnogellhoheaaGreatDoor
open Go
theorem jf20 : (Rows.fnPrivateRow.ifacesOut == Tryz.f13.resultTypes.toList.any (Tryz.checked.prog.ifacesRec ·)) = true := by kernel_rfl
theorem jf21 : (Rows.fnPrivateRow.loopsOut == Tryz.f13.resultTypes.toList.any (Tryz.checked.prog.loopsFrom ·)) = true := by kernel_rfl
theorem jf22 : (Rows.fnPrivateRow.plainKeys == Tryz.checked.prog.plainKeys) = true := by kernel_rfl
theorem jf23 : (Rows.fnPrivateRow.shortTexts.isNone) = true := by kernel_rfl
theorem jf24 : (Tryz.checked.prog.stopsHeard) = true := by kernel_rfl
theorem jf25 : (Tryz.checked.prog.mayEnter) = true := by kernel_rfl
theorem jf26 : (Rows.fnPrivateRow.lifted == Tryz.checked.prog.liftsFinal) = true := by kernel_rfl
theorem jf27 : (Tryz.checked.prog.make == some Rows.fnPrivateRow.make) = true := by kernel_rfl
theorem jf28 : (Rows.fnPrivateRow.kinds == (if Rows.fnPrivateRow.domain.isEmpty then [] else Tryz.f13.params.toList.map fun t => match Tryz.checked.prog.underlying t with | some (.int k) => some k | _ => none)) = true := by kernel_rfl
theorem jf29 : (Rows.fnPrivateRow.pinned == Rows.fnPrivateRow.pinnedBy) = true := by kernel_rfl
theorem jf30 : (Rows.fnPrivateRow.veiled == (Tryz.f13.params.toList ++ (OpenSpec.ofChange Rows.fnPrivateSpec).bare.plain.varTypes Tryz.checked.prog ++ Tryz.f13.resultTypes.toList).any (Tryz.checked.prog.veiledRec ·)) = true := by kernel_rfl
theorem jf31 : (Rows.fnPrivateRow.veiledFits Tryz.checked.prog Tryz.f13.params.toList (Tryz.f13.params.toList ++ (OpenSpec.ofChange Rows.fnPrivateSpec).bare.plain.varTypes Tryz.checked.prog ++ Tryz.f13.resultTypes.toList)) = true := by kernel_rfl
end Go.Proofs.YtmbnogellhoheaaGreatDoor
