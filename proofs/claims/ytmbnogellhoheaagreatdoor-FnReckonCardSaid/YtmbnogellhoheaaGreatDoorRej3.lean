/- FnReckon: closed facts of its row, part 4. -/
import Derived.Test.YtmbnogellhoheaaGreatDoorRows
import Derived.WalkKit
import Derived.ProofKit
import Derived.Deep.DeepHandedRow
import Derived.JoinedCond
namespace Go.Proofs.YtmbnogellhoheaaGreatDoor
open Go
theorem jf20 : (Rows.fnReckonRow.ifacesOut == Tryz.f14.resultTypes.toList.any (Tryz.checked.prog.ifacesRec ·)) = true := by kernel_rfl
theorem jf21 : (Rows.fnReckonRow.loopsOut == Tryz.f14.resultTypes.toList.any (Tryz.checked.prog.loopsFrom ·)) = true := by kernel_rfl
theorem jf22 : (Rows.fnReckonRow.plainKeys == Tryz.checked.prog.plainKeys) = true := by kernel_rfl
theorem jf23 : (Rows.fnReckonRow.shortTexts.isNone) = true := by kernel_rfl
theorem jf24 : (Tryz.checked.prog.stopsHeard) = true := by kernel_rfl
theorem jf25 : (Tryz.checked.prog.mayEnter) = true := by kernel_rfl
theorem jf26 : (Rows.fnReckonRow.lifted == Tryz.checked.prog.liftsFinal) = true := by kernel_rfl
theorem jf27 : (Tryz.checked.prog.make == some Rows.fnReckonRow.make) = true := by kernel_rfl
theorem jf28 : (Rows.fnReckonRow.kinds == (if Rows.fnReckonRow.domain.isEmpty then [] else Tryz.f14.params.toList.map fun t => match Tryz.checked.prog.underlying t with | some (.int k) => some k | _ => none)) = true := by kernel_rfl
theorem jf29 : (Rows.fnReckonRow.pinned == Rows.fnReckonRow.pinnedBy) = true := by kernel_rfl
theorem jf30 : (Rows.fnReckonRow.veiled == (Tryz.f14.params.toList ++ (OpenSpec.ofChange Rows.fnReckonSpec).bare.plain.varTypes Tryz.checked.prog ++ Tryz.f14.resultTypes.toList).any (Tryz.checked.prog.veiledRec ·)) = true := by kernel_rfl
theorem jf31 : (Rows.fnReckonRow.veiledFits Tryz.checked.prog Tryz.f14.params.toList (Tryz.f14.params.toList ++ (OpenSpec.ofChange Rows.fnReckonSpec).bare.plain.varTypes Tryz.checked.prog ++ Tryz.f14.resultTypes.toList)) = true := by kernel_rfl
end Go.Proofs.YtmbnogellhoheaaGreatDoor
