/- FnOnce answers true at every slice of bytes, and every argument reads as before: the card, with the listed variables tied to the program's text. It asks only that those variables hold what that text lays in them. -/
import Derived.Test.YtmbnogellhoheaaGreatDoorOnz
import Derived.Test.YtmbnogellhoheaaGreatDoorOnw
import Derived.Test.YtmbnogellhoheaaGreatDoorOnt
import Derived.Test.YtmbnogellhoheaaGreatDoorOnj
import Derived.Test.YtmbnogellhoheaaGreatDoorOnk
import Derived.Test.YtmbnogellhoheaaGreatDoorCards
namespace Go.Proofs.YtmbnogellhoheaaGreatDoor
open Go.ChangeShapes Go.WideShapes Go.ChangeAt Go.RowKit
set_option maxRecDepth 100000 in
theorem fnOnce_lifted (os : Os) (started : os.Started) (H : Type) (enc : TypeId × Value → H) (F : Stop.Interp) :
    ReturnsInHanded {} Tryz.checked os 11 .any ((OpenSpec.ofChange Rows.fnOnceSpec).preRow enc Tryz.prog Tryz.f11 Rows.fnOnceRow.domain false Rows.fnOnceRow.laid) (((OpenSpec.ofChange Rows.fnOnceSpec).at F).post enc Tryz.prog Tryz.f11 false true false false) := by
  refine returnsInHanded_of_row (C := Tryz.checked) (s := OpenSpec.ofChange Rows.fnOnceSpec) Wit.own started Wit.noInit Tryz.func11 (Wit.witness os enc) ?_
  intro W base args ds gs before hval hW _ _ _ hL hS _
  exact Run.contract H enc W base args ds gs before hval hW hL hS
theorem fnOnce_said : Rows.FnOnceSaid :=
  OpenClaim.holds_of_cond 11 Tryz.f11 rfl rfl rfl rfl rfl rfl rfl ⟨rfl, rfl, rfl, rfl, rfl⟩ rfl rfl rfl rfl rfl fnOnce_named Tryz.func11 fnOnce_facts fnOnce_inst fnOnce_wrap
    (fun os started H enc _ F => by rw [OpenClaim.pre_eq_preRow]; exact fnOnce_lifted os started H enc F)
theorem fnOnce_plain (f : FuncId) (fn : Func) (hf : Tryz.pinned.checked.prog.funcNamed "loop.example/stowage/laws.FnOnce" = some f) (hfn : Tryz.pinned.checked.prog.funcs[f]? = some fn) :
    true = Tryz.pinned.checked.prog.looks [] ∧ ∀ (j : Nat) t, fn.params[j]? = some t → Tryz.pinned.checked.prog.wantsStandIn t = false := by
  obtain rfl : f = 11 := Option.some.inj (fnOnce_named.symm.trans hf) |>.symm
  obtain rfl : fn = Tryz.f11 := (Option.some.inj (Tryz.func11.symm.trans hfn)).symm
  refine ⟨noLooks, fun j t ht => ?_⟩
  rw [Run.params3] at ht
  obtain rfl : t = 22 := by simpa using Array.mem_of_getElem? ht
  exact noStand
theorem fnOnce_card : Rows.FnOnceCardSaid :=
  Claim7.holds_tied_plain_at .later [] _ _ _ _ fnOnce_said (fun _ h => by cases h) fnOnce_wf (fun _ h => by cases h) EvTie.fnOnce_tied rfl ⟨rfl, rfl⟩ fnOnce_main rfl fnOnce_plain fnOnce_goes
end Go.Proofs.YtmbnogellhoheaaGreatDoor
