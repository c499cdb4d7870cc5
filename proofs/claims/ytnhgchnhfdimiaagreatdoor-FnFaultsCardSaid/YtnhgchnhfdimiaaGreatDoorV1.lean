/- FnFaults, run by the evaluator: a length of the form 8 m + 1. -/
import Derived.Test.YtnhgchnhfdimiaaGreatDoorFd
namespace Go.Proofs.YtnhgchnhfdimiaaGreatDoor.Run
theorem ev1 : evF false 1 = true := by decide +kernel
end Go.Proofs.YtnhgchnhfdimiaaGreatDoor.Run
