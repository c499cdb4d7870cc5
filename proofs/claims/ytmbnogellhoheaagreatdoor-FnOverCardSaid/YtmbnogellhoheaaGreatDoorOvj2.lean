/- FnOver: closed facts of its row, part 12. -/
import Derived.Test.YtmbnogellhoheaaGreatDoorRows
import Derived.WalkKit
import Derived.ProofKit
import Derived.Deep.DeepHandedRow
import Derived.JoinedCond
namespace Go.Proofs.YtmbnogellhoheaaGreatDoor
open Go
theorem jf13 : (Rows.fnOverRow.maps == (Tryz.f12.params.toList ++ (OpenSpec.ofChange Rows.fnOverSpec).bare.plain.varTypes Tryz.checked.prog).any (Tryz.checked.prog.mapsRec ·)) = true := by kernel_rfl
theorem jf14 : (Rows.fnOverRow.ifaces == (Tryz.f12.params.toList ++ (OpenSpec.ofChange Rows.fnOverSpec).bare.plain.varTypes Tryz.checked.prog).any (Tryz.checked.prog.ifacesRec ·)) = true := by kernel_rfl
theorem jf15 : (Rows.fnOverRow.mapsOut == Tryz.checked.prog.mapsAmong Tryz.f12.resultTypes.toList) = true := by kernel_rfl
theorem jf16 : (Rows.fnOverRow.loops == (Tryz.f12.params.toList ++ (OpenSpec.ofChange Rows.fnOverSpec).bare.plain.varTypes Tryz.checked.prog).any (Tryz.checked.prog.loopsFrom ·)) = true := by kernel_rfl
theorem jf17 : (Rows.fnOverRow.wideKeys == (Tryz.f12.params.toList ++ (OpenSpec.ofChange Rows.fnOverSpec).bare.plain.varTypes Tryz.checked.prog ++ Tryz.f12.resultTypes.toList).any (Tryz.checked.prog.wideKeysFrom ·)) = true := by kernel_rfl
theorem jf18 : ((OpenSpec.ofChange Rows.fnOverSpec).bare.vars.all (Tryz.checked.prog.varReadable ·)) = true := by kernel_rfl
theorem jf19 : (Tryz.f12.resultTypes.all (fun t => Tryz.checked.prog.readableRec t && decide (t < Tryz.checked.prog.types.size))) = true := by kernel_rfl
end Go.Proofs.YtmbnogellhoheaaGreatDoor
