/- FnFaults, run by the evaluator: a length of the form 8 m + 4. -/
import Derived.Test.YtnhgchnhfdimiaaGreatDoorFd
namespace Go.Proofs.YtnhgchnhfdimiaaGreatDoor.Run
theorem ev4 : evF false 4 = true := by decide +kernel
end Go.Proofs.YtnhgchnhfdimiaaGreatDoor.Run
