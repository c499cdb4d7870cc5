/- FnFaults, run by the evaluator: a length of the form 8 m + 5. -/
import Derived.Test.YtnhgchnhfdimiaaGreatDoorFd
namespace Go.Proofs.YtnhgchnhfdimiaaGreatDoor.Run
theorem ev5 : evF false 5 = true := by decide +kernel
end Go.Proofs.YtnhgchnhfdimiaaGreatDoor.Run
