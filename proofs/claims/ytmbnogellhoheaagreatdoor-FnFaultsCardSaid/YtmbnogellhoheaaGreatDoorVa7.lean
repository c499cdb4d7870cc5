/- FnFaults: one of its runs, by the evaluator. -/
import Derived.Test.YtmbnogellhoheaaGreatDoorFl
namespace Go.Proofs.YtmbnogellhoheaaGreatDoor.Run
open Go Go.Proofs.YtmbnogellhoheaaGreatDoor.Ev Go.Proofs.YtmbnogellhoheaaGreatDoor
theorem evA7 (val : Pos → Option Nat) (fx : Pos → Option Fx) : chkP (FF natO val fx (binM 8 false 7) no1 (pos 3) [.a 1 (pb 1)] (pos 64) .e) (.b true) = true := by kernel_rfl
end Go.Proofs.YtmbnogellhoheaaGreatDoor.Run
