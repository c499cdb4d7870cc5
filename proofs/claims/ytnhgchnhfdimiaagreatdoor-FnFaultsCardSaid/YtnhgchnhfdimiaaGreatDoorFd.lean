/- The evaluation of FnFaults: what is looked up, and what is asked. -/
import Derived.Test.YtnhgchnhfdimiaaGreatDoorFx
namespace Go.Proofs.YtnhgchnhfdimiaaGreatDoor.Run
open Go Go.Proofs.YtnhgchnhfdimiaaGreatDoor.Ev
def asc : List Nat := [0, 0, 0, 0, 0, 0, 0, 0, 0, 1, 1, 1, 1, 1, 0, 0, 0, 0, 0, 0, 0, 0, 0, 0, 0, 0, 0, 0, 0, 0, 0, 0, 1, 0, 0, 0, 0, 0, 0, 0, 0, 0, 0, 0, 0, 0, 0, 0, 0, 0, 0, 0, 0, 0, 0, 0, 0, 0, 0, 0, 0, 0, 0, 0, 0, 0, 0, 0, 0, 0, 0, 0, 0, 0, 0, 0, 0, 0, 0, 0, 0, 0, 0, 0, 0, 0, 0, 0, 0, 0, 0, 0, 0, 0, 0, 0, 0, 0, 0, 0, 0, 0, 0, 0, 0, 0, 0, 0, 0, 0, 0, 0, 0, 0, 0, 0, 0, 0, 0, 0, 0, 0, 0, 0, 0, 0, 0, 0, 0, 0, 0, 0, 0, 0, 0, 0, 0, 0, 0, 0, 0, 0, 0, 0, 0, 0, 0, 0, 0, 0, 0, 0, 0, 0, 0, 0, 0, 0, 0, 0, 0, 0, 0, 0, 0, 0, 0, 0, 0, 0, 0, 0, 0, 0, 0, 0, 0, 0, 0, 0, 0, 0, 0, 0, 0, 0, 0, 0, 0, 0, 0, 0, 0, 0, 0, 0, 0, 0, 0, 0, 0, 0, 0, 0, 0, 0, 0, 0, 0, 0, 0, 0, 0, 0, 0, 0, 0, 0, 0, 0, 0, 0, 0, 0, 0, 0, 0, 0, 0, 0, 0, 0, 0, 0, 0, 0, 0, 0, 0, 0, 0, 0, 0, 0, 0, 0, 0, 0, 0, 0, 0, 0, 0, 0, 0, 0]
noncomputable def glF : Nat → Option Pos := fun g => bif Nat.beq g 3 then some .h else none
noncomputable def isP1 (id : Pos) : Bool := Pos.casesOn (motive := fun _ => Bool) id false (fun p => Pos.casesOn (motive := fun _ => Bool) p true (fun _ => false) (fun _ => false)) (fun _ => false)
noncomputable def tblF (g : Bool) (k : Nat) : BinOp → Pos → Nat → Option V := fun op id c => match op with
  | .gtr => cond (Nat.beq c 1048576) (cond (isP1 id) (some (.b g)) none) none
  | .rem => cond (Nat.beq c 8) (cond (isP1 id) (some (.n k)) none) none
  | _ => none
noncomputable def evF (g : Bool) (k : Nat) : Bool := tru asc (callN (tabOf YF XT glF (tblF g k) fil) 60 (pos 3) [.a 1 (.o .h)] (pos 2) (tb0 356 asc))
end Go.Proofs.YtnhgchnhfdimiaaGreatDoor.Run
