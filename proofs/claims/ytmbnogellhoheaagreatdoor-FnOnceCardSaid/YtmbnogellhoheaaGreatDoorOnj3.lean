/- FnOnce: closed facts of its row, part 4. -/
import Derived.Test.YtmbnogellhoheaaGreatDoorRows
import Derived.WalkKit
import Derived.ProofKit
import Derived.Deep.DeepHandedRow
import Derived.JoinedCond
namespace Go.Proofs.YtmbnogellhoheaaGreatDoor
open Go
theorem jf20 : (Rows.fnOnceRow.ifacesOut == Tryz.f11.resultTypes.toList.any (Tryz.checked.prog.ifacesRec ·)) = true := by kernel_rfl
theorem jf21 : (Rows.fnOnceRow.loopsOut == Tryz.f11.resultTypes.toList.any (Tryz.checked.prog.loopsFrom ·)) = true := by kernel_rfl
theorem jf22 : (Rows.fnOnceRow.plainKeys == Tryz.checked.prog.plainKeys) = true := by kernel_rfl
theorem jf23 : (Rows.fnOnceRow.shortTexts.isNone) = true := by kernel_rfl
theorem jf24 : (Tryz.checked.prog.stopsHeard) = true := by kernel_rfl
theorem jf25 : (Tryz.checked.prog.mayEnter) = true := by kernel_rfl
theorem jf26 : (Rows.fnOnceRow.lifted == Tryz.checked.prog.liftsFinal) = true := by kernel_rfl
theorem jf27 : (Tryz.checked.prog.make == some Rows.fnOnceRow.make) = true := by kernel_rfl
theorem jf28 : (Rows.fnOnceRow.kinds == (if Rows.fnOnceRow.domain.isEmpty then [] else Tryz.f11.params.toList.map fun t => match Tryz.checked.prog.underlying t with | some (.int k) => some k | _ => none)) = true := by kernel_rfl
theorem jf29 : (Rows.fnOnceRow.pinned == Rows.fnOnceRow.pinnedBy) = true := by kernel_rfl
theorem jf30 : (Rows.fnOnceRow.veiled == (Tryz.f11.params.toList ++ (OpenSpec.ofChange Rows.fnOnceSpec).bare.plain.varTypes Tryz.checked.prog ++ Tryz.f11.resultTypes.toList).any (Tryz.checked.prog.veiledRec ·)) = true := by kernel_rfl
theorem jf31 : (Rows.fnOnceRow.veiledFits Tryz.checked.prog Tryz.f11.params.toList (Tryz.f11.params.toList ++ (OpenSpec.ofChange Rows.fnOnceSpec).bare.plain.varTypes Tryz.checked.prog ++ Tryz.f11.resultTypes.toList)) = true := by kernel_rfl
end Go.Proofs.YtmbnogellhoheaaGreatDoor
