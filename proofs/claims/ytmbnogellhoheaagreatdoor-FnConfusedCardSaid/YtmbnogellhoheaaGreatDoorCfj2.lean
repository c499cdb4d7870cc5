/- FnConfused: closed facts of its row, part 5. -/
import Derived.Test.YtmbnogellhoheaaGreatDoorRows
import Derived.WalkKit
import Derived.ProofKit
import Derived.Deep.DeepHandedRow
import Derived.JoinedCond
namespace Go.Proofs.YtmbnogellhoheaaGreatDoor
open Go
theorem jf13 : (Rows.fnConfusedRow.maps == (Tryz.f5.params.toList ++ (OpenSpec.ofChange Rows.fnConfusedSpec).bare.plain.varTypes Tryz.checked.prog).any (Tryz.checked.prog.mapsRec ·)) = true := by kernel_rfl
theorem jf14 : (Rows.fnConfusedRow.ifaces == (Tryz.f5.params.toList ++ (OpenSpec.ofChange Rows.fnConfusedSpec).bare.plain.varTypes Tryz.checked.prog).any (Tryz.checked.prog.ifacesRec ·)) = true := by kernel_rfl
theorem jf15 : (Rows.fnConfusedRow.mapsOut == Tryz.checked.prog.mapsAmong Tryz.f5.resultTypes.toList) = true := by kernel_rfl
theorem jf16 : (Rows.fnConfusedRow.loops == (Tryz.f5.params.toList ++ (OpenSpec.ofChange Rows.fnConfusedSpec).bare.plain.varTypes Tryz.checked.prog).any (Tryz.checked.prog.loopsFrom ·)) = true := by kernel_rfl
theorem jf17 : (Rows.fnConfusedRow.wideKeys == (Tryz.f5.params.toList ++ (OpenSpec.ofChange Rows.fnConfusedSpec).bare.plain.varTypes Tryz.checked.prog ++ Tryz.f5.resultTypes.toList).any (Tryz.checked.prog.wideKeysFrom ·)) = true := by kernel_rfl
theorem jf18 : ((OpenSpec.ofChange Rows.fnConfusedSpec).bare.vars.all (Tryz.checked.prog.varReadable ·)) = true := by kernel_rfl
theorem jf19 : (Tryz.f5.resultTypes.all (fun t => Tryz.checked.prog.readableRec t && decide (t < Tryz.checked.prog.types.size))) = true := by kernel_rfl
end Go.Proofs.YtmbnogellhoheaaGreatDoor
