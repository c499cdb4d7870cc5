/- FnCast: closed facts of its row, part 7. -/
import Derived.Test.YtmbnogellhoheaaGreatDoorRows
import Derived.WalkKit
import Derived.ProofKit
import Derived.Deep.DeepHandedRow
import Derived.JoinedCond
namespace Go.Proofs.YtmbnogellhoheaaGreatDoor
open Go
theorem jf13 : (Rows.fnCastRow.maps == (Tryz.f7.params.toList ++ (OpenSpec.ofChange Rows.fnCastSpec).bare.plain.varTypes Tryz.checked.prog).any (Tryz.checked.prog.mapsRec ·)) = true := by kernel_rfl
theorem jf14 : (Rows.fnCastRow.ifaces == (Tryz.f7.params.toList ++ (OpenSpec.ofChange Rows.fnCastSpec).bare.plain.varTypes Tryz.checked.prog).any (Tryz.checked.prog.ifacesRec ·)) = true := by kernel_rfl
theorem jf15 : (Rows.fnCastRow.mapsOut == Tryz.checked.prog.mapsAmong Tryz.f7.resultTypes.toList) = true := by kernel_rfl
theorem jf16 : (Rows.fnCastRow.loops == (Tryz.f7.params.toList ++ (OpenSpec.ofChange Rows.fnCastSpec).bare.plain.varTypes Tryz.checked.prog).any (Tryz.checked.prog.loopsFrom ·)) = true := by kernel_rfl
theorem jf17 : (Rows.fnCastRow.wideKeys == (Tryz.f7.params.toList ++ (OpenSpec.ofChange Rows.fnCastSpec).bare.plain.varTypes Tryz.checked.prog ++ Tryz.f7.resultTypes.toList).any (Tryz.checked.prog.wideKeysFrom ·)) = true := by kernel_rfl
theorem jf18 : ((OpenSpec.ofChange Rows.fnCastSpec).bare.vars.all (Tryz.checked.prog.varReadable ·)) = true := by kernel_rfl
theorem jf19 : (Tryz.f7.resultTypes.all (fun t => Tryz.checked.prog.readableRec t && decide (t < Tryz.checked.prog.types.size))) = true := by kernel_rfl
end Go.Proofs.YtmbnogellhoheaaGreatDoor
