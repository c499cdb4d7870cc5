/- FnFaults, run by the evaluator: a slice that is too long. -/
import Derived.Test.YtnhgchnhfdimiaaGreatDoorFd
namespace Go.Proofs.YtnhgchnhfdimiaaGreatDoor.Run
open Go Go.Proofs.YtnhgchnhfdimiaaGreatDoor.Ev
noncomputable def tblG : BinOp → Pos → Nat → Option V := fun op id c => match op with
  | .gtr => cond (Nat.beq c 1048576) (cond (isP1 id) (some (.b true)) none) none
  | _ => none
theorem evg : tru asc (callN (tabOf YF XT glF tblG fil) 60 (pos 3) [.a 1 (.o .h)] (pos 2) (tb0 356 asc)) = true := by decide +kernel
end Go.Proofs.YtnhgchnhfdimiaaGreatDoor.Run
