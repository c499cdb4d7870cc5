/- FnFaults, run by the evaluator: a length of the form 8 m + 7. -/
import Derived.Test.YtnhgchnhfdimiaaGreatDoorFd
namespace Go.Proofs.YtnhgchnhfdimiaaGreatDoor.Run
theorem ev7 : evF false 7 = true := by decide +kernel
end Go.Proofs.YtnhgchnhfdimiaaGreatDoor.Run
