/- FnOver answers true at every slice of bytes, and every argument reads as before: the card, with the listed variables tied to the program's text. It asks only that those variables hold what that text lays in them. -/
import Derived.Test.YtmbnogellhoheaaGreatDoorOvz
import Derived.Test.YtmbnogellhoheaaGreatDoorOvw
import Derived.Test.YtmbnogellhoheaaGreatDoorOvt
import Derived.Test.YtmbnogellhoheaaGreatDoorOvj
import Derived.Test.YtmbnogellhoheaaGreatDoorOvk
import Derived.Test.YtmbnogellhoheaaGreatDoorCards
namespace Go.Proofs.YtmbnogellhoheaaGreatDoor
open Go.ChangeShapes Go.WideShapes Go.ChangeAt Go.RowKit
set_option maxRecDepth 100000 in
theorem fnOver_lifted (os : Os) (started : os.Started) (H : Type) (enc : TypeId × Value → H) (F : Stop.Interp) :
    ReturnsInHanded {} Tryz.checked os 12 .any ((OpenSpec.ofChange Rows.fnOverSpec).preRow enc Tryz.prog Tryz.f12 Rows.fnOverRow.domain false Rows.fnOverRow.laid) (((OpenSpec.ofChange Rows.fnOverSpec).at F).post enc Tryz.prog Tryz.f12 false true false false) := by
  refine returnsInHanded_of_row (C := Tryz.checked) (s := OpenSpec.ofChange Rows.fnOverSpec) Wit.own started Wit.noInit Tryz.func12 (Wit.witness os enc) ?_
  intro W base args ds gs before hval hW _ _ _ hL hS _
  exact Run.contract H enc W base args ds gs before hval hW hL hS
theorem fnOver_said : Rows.FnOverSaid :=
  OpenClaim.holds_of_cond 12 Tryz.f12 rfl rfl rfl rfl rfl rfl rfl ⟨rfl, rfl, rfl, rfl, rfl⟩ rfl rfl rfl rfl rfl fnOver_named Tryz.func12 fnOver_facts fnOver_inst fnOver_wrap
    (fun os started H enc _ F => by rw [OpenClaim.pre_eq_preRow]; exact fnOver_lifted os started H enc F)
theorem fnOver_plain (f : FuncId) (fn : Func) (hf : Tryz.pinned.checked.prog.funcNamed "loop.example/stowage/laws.FnOver" = some f) (hfn : Tryz.pinned.checked.prog.funcs[f]? = some fn) :
    true = Tryz.pinned.checked.prog.looks [] ∧ ∀ (j : Nat) t, fn.params[j]? = some t → Tryz.pinned.checked.prog.wantsStandIn t = false := by
  obtain rfl : f = 12 := Option.some.inj (fnOver_named.symm.trans hf) |>.symm
  obtain rfl : fn = Tryz.f12 := (Option.some.inj (Tryz.func12.symm.trans hfn)).symm
  refine ⟨noLooks, fun j t ht => ?_⟩
  rw [Run.params3] at ht
  obtain rfl : t = 22 := by simpa using Array.mem_of_getElem? ht
  exact noStand
theorem fnOver_card : Rows.FnOverCardSaid :=
  Claim7.holds_tied_plain_at .later [] _ _ _ _ fnOver_said (fun _ h => by cases h) fnOver_wf (fun _ h => by cases h) EvTie.fnOver_tied rfl ⟨rfl, rfl⟩ fnOver_main rfl fnOver_plain fnOver_goes
end Go.Proofs.YtmbnogellhoheaaGreatDoor
