/- FnObject answers true at every slice of bytes, and every argument reads as before: the card, with the listed variables tied to the program's text. It asks only that those variables hold what that text lays in them. -/
import Derived.Test.YtmbnogellhoheaaGreatDoorObz
import Derived.Test.YtmbnogellhoheaaGreatDoorObw
import Derived.Test.YtmbnogellhoheaaGreatDoorObt
import Derived.Test.YtmbnogellhoheaaGreatDoorObj
import Derived.Test.YtmbnogellhoheaaGreatDoorObj0
import Derived.Test.YtmbnogellhoheaaGreatDoorCards
namespace Go.Proofs.YtmbnogellhoheaaGreatDoor
open Go.ChangeShapes Go.WideShapes Go.ChangeAt Go.RowKit
set_option maxRecDepth 100000 in
theorem fnObject_lifted (os : Os) (started : os.Started) (H : Type) (enc : TypeId × Value → H) (F : Stop.Interp) :
    ReturnsInHanded {} Tryz.checked os 10 .any ((OpenSpec.ofChange Rows.fnObjectSpec).preRow enc Tryz.prog Tryz.f10 Rows.fnObjectRow.domain false Rows.fnObjectRow.laid) (((OpenSpec.ofChange Rows.fnObjectSpec).at F).post enc Tryz.prog Tryz.f10 false true false false) := by
  refine returnsInHanded_of_row (C := Tryz.checked) (s := OpenSpec.ofChange Rows.fnObjectSpec) Wit.own started Wit.noInit Tryz.func10 (Wit.witness os enc) ?_
  intro W base args ds gs before hval hW _ _ _ hL hS _
  exact Run.contract H enc W base args ds gs before hval hW hL hS
theorem fnObject_said : Rows.FnObjectSaid :=
  OpenClaim.holds_of_cond 10 Tryz.f10 rfl rfl rfl rfl rfl rfl rfl ⟨rfl, rfl, rfl, rfl, rfl⟩ rfl rfl rfl rfl rfl fnObject_named Tryz.func10 fnObject_facts fnObject_inst fnObject_wrap
    (fun os started H enc _ F => by rw [OpenClaim.pre_eq_preRow]; exact fnObject_lifted os started H enc F)
theorem fnObject_plain (f : FuncId) (fn : Func) (hf : Tryz.pinned.checked.prog.funcNamed "loop.example/stowage/laws.FnObject" = some f) (hfn : Tryz.pinned.checked.prog.funcs[f]? = some fn) :
    true = Tryz.pinned.checked.prog.looks [] ∧ ∀ (j : Nat) t, fn.params[j]? = some t → Tryz.pinned.checked.prog.wantsStandIn t = false := by
  obtain rfl : f = 10 := Option.some.inj (fnObject_named.symm.trans hf) |>.symm
  obtain rfl : fn = Tryz.f10 := (Option.some.inj (Tryz.func10.symm.trans hfn)).symm
  refine ⟨noLooks, fun j t ht => ?_⟩
  rw [Run.params3] at ht
  obtain rfl : t = 22 := by simpa using Array.mem_of_getElem? ht
  exact noStand
theorem fnObject_card : Rows.FnObjectCardSaid :=
  Claim7.holds_tied_plain_at .later [] _ _ _ _ fnObject_said (fun _ h => by cases h) fnObject_wf (fun _ h => by cases h) EvTie.fnObject_tied rfl ⟨rfl, rfl⟩ fnObject_main rfl fnObject_plain fnObject_goes
end Go.Proofs.YtmbnogellhoheaaGreatDoor
