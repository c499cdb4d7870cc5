/- FnFaults answers true at every slice of bytes, and every argument reads as before: the card, with the listed variables tied to the program's text. It asks only that those variables hold what that text lays in them. -/
import Derived.Test.YtmbnogellhoheaaGreatDoorAz
import Derived.Test.YtmbnogellhoheaaGreatDoorAw
import Derived.Test.YtmbnogellhoheaaGreatDoorAt
import Derived.Test.YtmbnogellhoheaaGreatDoorAj
import Derived.Test.YtmbnogellhoheaaGreatDoorAk
import Derived.Test.YtmbnogellhoheaaGreatDoorCards
namespace Go.Proofs.YtmbnogellhoheaaGreatDoor
open Go.ChangeShapes Go.WideShapes Go.ChangeAt Go.RowKit
set_option maxRecDepth 100000 in
theorem fnFaults_lifted (os : Os) (started : os.Started) (H : Type) (enc : TypeId × Value → H) (F : Stop.Interp) :
    ReturnsInHanded {} Tryz.checked os 3 .any ((OpenSpec.ofChange Rows.fnFaultsSpec).preRow enc Tryz.prog Tryz.f3 Rows.fnFaultsRow.domain false Rows.fnFaultsRow.laid) (((OpenSpec.ofChange Rows.fnFaultsSpec).at F).post enc Tryz.prog Tryz.f3 false true false false) := by
  refine returnsInHanded_of_row (C := Tryz.checked) (s := OpenSpec.ofChange Rows.fnFaultsSpec) Wit.own started Wit.noInit Tryz.func3 (Wit.witness os enc) ?_
  intro W base args ds gs before hval hW _ _ _ hL hS _
  exact Run.contract H enc W base args ds gs before hval hW hL hS
theorem fnFaults_said : Rows.FnFaultsSaid :=
  OpenClaim.holds_of_cond 3 Tryz.f3 rfl rfl rfl rfl rfl rfl rfl ⟨rfl, rfl, rfl, rfl, rfl⟩ rfl rfl rfl rfl rfl fnFaults_named Tryz.func3 fnFaults_facts fnFaults_inst fnFaults_wrap
    (fun os started H enc _ F => by rw [OpenClaim.pre_eq_preRow]; exact fnFaults_lifted os started H enc F)
theorem fnFaults_plain (f : FuncId) (fn : Func) (hf : Tryz.pinned.checked.prog.funcNamed "loop.example/stowage/laws.FnFaults" = some f) (hfn : Tryz.pinned.checked.prog.funcs[f]? = some fn) :
    true = Tryz.pinned.checked.prog.looks [] ∧ ∀ (j : Nat) t, fn.params[j]? = some t → Tryz.pinned.checked.prog.wantsStandIn t = false := by
  obtain rfl : f = 3 := Option.some.inj (fnFaults_named.symm.trans hf) |>.symm
  obtain rfl : fn = Tryz.f3 := (Option.some.inj (Tryz.func3.symm.trans hfn)).symm
  refine ⟨noLooks, fun j t ht => ?_⟩
  rw [Run.params3] at ht
  obtain rfl : t = 22 := by simpa using Array.mem_of_getElem? ht
  exact noStand
theorem fnFaults_card : Rows.FnFaultsCardSaid :=
  Claim7.holds_tied_plain_at .later [] _ _ _ _ fnFaults_said (fun _ h => by cases h) fnFaults_wf (fun _ h => by cases h) EvTie.fnFaults_tied rfl ⟨rfl, rfl⟩ fnFaults_main rfl fnFaults_plain fnFaults_goes
end Go.Proofs.YtmbnogellhoheaaGreatDoor
