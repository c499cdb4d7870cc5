/- FnCast: closed facts of its row, part 4. -/
import Derived.Test.YtmbnogellhoheaaGreatDoorRows
import Derived.WalkKit
import Derived.ProofKit
import Derived.Deep.DeepHandedRow
import Derived.JoinedCond
namespace Go.Proofs.YtmbnogellhoheaaGreatDoor
open Go
theorem jf20 : (Rows.fnCastRow.ifacesOut == Tryz.f7.resultTypes.toList.any (Tryz.checked.prog.ifacesRec ·)) = true := by kernel_rfl
theorem jf21 : (Rows.fnCastRow.loopsOut == Tryz.f7.resultTypes.toList.any (Tryz.checked.prog.loopsFrom ·)) = true := by kernel_rfl
theorem jf22 : (Rows.fnCastRow.plainKeys == Tryz.checked.prog.plainKeys) = true := by kernel_rfl
theorem jf23 : (Rows.fnCastRow.shortTexts.isNone) = true := by kernel_rfl
theorem jf24 : (Tryz.checked.prog.stopsHeard) = true := by kernel_rfl
theorem jf25 : (Tryz.checked.prog.mayEnter) = true := by kernel_rfl
theorem jf26 : (Rows.fnCastRow.lifted == Tryz.checked.prog.liftsFinal) = true := by kernel_rfl
theorem jf27 : (Tryz.checked.prog.make == some Rows.fnCastRow.make) = true := by kernel_rfl
theorem jf28 : (Rows.fnCastRow.kinds == (if Rows.fnCastRow.domain.isEmpty then [] else Tryz.f7.params.toList.map fun t => match Tryz.checked.prog.underlying t with | some (.int k) => some k | _ => none)) = true := by kernel_rfl
theorem jf29 : (Rows.fnCastRow.pinned == Rows.fnCastRow.pinnedBy) = true := by kernel_rfl
theorem jf30 : (Rows.fnCastRow.veiled == (Tryz.f7.params.toList ++ (OpenSpec.ofChange Rows.fnCastSpec).bare.plain.varTypes Tryz.checked.prog ++ Tryz.f7.resultTypes.toList).any (Tryz.checked.prog.veiledRec ·)) = true := by kernel_rfl
theorem jf31 : (Rows.fnCastRow.veiledFits Tryz.checked.prog Tryz.f7.params.toList (Tryz.f7.params.toList ++ (OpenSpec.ofChange Rows.fnCastSpec).bare.plain.varTypes Tryz.checked.prog ++ Tryz.f7.resultTypes.toList)) = true := by kernel_rfl
end Go.Proofs.YtmbnogellhoheaaGreatDoor
