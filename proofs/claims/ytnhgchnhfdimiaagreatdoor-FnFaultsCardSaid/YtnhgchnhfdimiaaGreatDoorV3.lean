/- FnFaults, run by the evaluator: a length of the form 8 m + 3. -/
import Derived.Test.YtnhgchnhfdimiaaGreatDoorFd
namespace Go.Proofs.YtnhgchnhfdimiaaGreatDoor.Run
theorem ev3 : evF false 3 = true := by decide +kernel
end Go.Proofs.YtnhgchnhfdimiaaGreatDoor.Run
