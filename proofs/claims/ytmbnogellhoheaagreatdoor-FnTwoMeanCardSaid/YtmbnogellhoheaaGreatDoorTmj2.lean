/- FnTwoMean: closed facts of its row, part 6. -/
import Derived.Test.YtmbnogellhoheaaGreatDoorRows
import Derived.WalkKit
import Derived.ProofKit
import Derived.Deep.DeepHandedRow
import Derived.JoinedCond
namespace Go.Proofs.YtmbnogellhoheaaGreatDoor
open Go
theorem jf13 : (Rows.fnTwoMeanRow.maps == (Tryz.f6.params.toList ++ (OpenSpec.ofChange Rows.fnTwoMeanSpec).bare.plain.varTypes Tryz.checked.prog).any (Tryz.checked.prog.mapsRec ·)) = true := by kernel_rfl
theorem jf14 : (Rows.fnTwoMeanRow.ifaces == (Tryz.f6.params.toList ++ (OpenSpec.ofChange Rows.fnTwoMeanSpec).bare.plain.varTypes Tryz.checked.prog).any (Tryz.checked.prog.ifacesRec ·)) = true := by kernel_rfl
theorem jf15 : (Rows.fnTwoMeanRow.mapsOut == Tryz.checked.prog.mapsAmong Tryz.f6.resultTypes.toList) = true := by kernel_rfl
theorem jf16 : (Rows.fnTwoMeanRow.loops == (Tryz.f6.params.toList ++ (OpenSpec.ofChange Rows.fnTwoMeanSpec).bare.plain.varTypes Tryz.checked.prog).any (Tryz.checked.prog.loopsFrom ·)) = true := by kernel_rfl
theorem jf17 : (Rows.fnTwoMeanRow.wideKeys == (Tryz.f6.params.toList ++ (OpenSpec.ofChange Rows.fnTwoMeanSpec).bare.plain.varTypes Tryz.checked.prog ++ Tryz.f6.resultTypes.toList).any (Tryz.checked.prog.wideKeysFrom ·)) = true := by kernel_rfl
theorem jf18 : ((OpenSpec.ofChange Rows.fnTwoMeanSpec).bare.vars.all (Tryz.checked.prog.varReadable ·)) = true := by kernel_rfl
theorem jf19 : (Tryz.f6.resultTypes.all (fun t => Tryz.checked.prog.readableRec t && decide (t < Tryz.checked.prog.types.size))) = true := by kernel_rfl
end Go.Proofs.YtmbnogellhoheaaGreatDoor
