/- FnCatch answers true at every slice of bytes, and every argument reads as before: the card, with the listed variables tied to the program's text. It asks only that those variables hold what that text lays in them. -/
import Derived.Test.YtmbnogellhoheaaGreatDoorCtz
import Derived.Test.YtmbnogellhoheaaGreatDoorCtw
import Derived.Test.YtmbnogellhoheaaGreatDoorCtt
import Derived.Test.YtmbnogellhoheaaGreatDoorCtj
import Derived.Test.YtmbnogellhoheaaGreatDoorCtk
import Derived.Test.YtmbnogellhoheaaGreatDoorCards
namespace Go.Proofs.YtmbnogellhoheaaGreatDoor
open Go.ChangeShapes Go.WideShapes Go.ChangeAt Go.RowKit
set_option maxRecDepth 100000 in
theorem fnCatch_lifted (os : Os) (started : os.Started) (H : Type) (enc : TypeId × Value → H) (F : Stop.Interp) :
    ReturnsInHanded {} Tryz.checked os 8 .any ((OpenSpec.ofChange Rows.fnCatchSpec).preRow enc Tryz.prog Tryz.f8 Rows.fnCatchRow.domain false Rows.fnCatchRow.laid) (((OpenSpec.ofChange Rows.fnCatchSpec).at F).post enc Tryz.prog Tryz.f8 false true false false) := by
  refine returnsInHanded_of_row (C := Tryz.checked) (s := OpenSpec.ofChange Rows.fnCatchSpec) Wit.own started Wit.noInit Tryz.func8 (Wit.witness os enc) ?_
  intro W base args ds gs before hval hW _ _ _ hL hS _
  exact Run.contract H enc W base args ds gs before hval hW hL hS
theorem fnCatch_said : Rows.FnCatchSaid :=
  OpenClaim.holds_of_cond 8 Tryz.f8 rfl rfl rfl rfl rfl rfl rfl ⟨rfl, rfl, rfl, rfl, rfl⟩ rfl rfl rfl rfl rfl fnCatch_named Tryz.func8 fnCatch_facts fnCatch_inst fnCatch_wrap
    (fun os started H enc _ F => by rw [OpenClaim.pre_eq_preRow]; exact fnCatch_lifted os started H enc F)
theorem fnCatch_plain (f : FuncId) (fn : Func) (hf : Tryz.pinned.checked.prog.funcNamed "loop.example/stowage/laws.FnCatch" = some f) (hfn : Tryz.pinned.checked.prog.funcs[f]? = some fn) :
    true = Tryz.pinned.checked.prog.looks [] ∧ ∀ (j : Nat) t, fn.params[j]? = some t → Tryz.pinned.checked.prog.wantsStandIn t = false := by
  obtain rfl : f = 8 := Option.some.inj (fnCatch_named.symm.trans hf) |>.symm
  obtain rfl : fn = Tryz.f8 := (Option.some.inj (Tryz.func8.symm.trans hfn)).symm
  refine ⟨noLooks, fun j t ht => ?_⟩
  rw [Run.params3] at ht
  obtain rfl : t = 22 := by simpa using Array.mem_of_getElem? ht
  exact noStand
theorem fnCatch_card : Rows.FnCatchCardSaid :=
  Claim7.holds_tied_plain_at .later [] _ _ _ _ fnCatch_said (fun _ h => by cases h) fnCatch_wf (fun _ h => by cases h) EvTie.fnCatch_tied rfl ⟨rfl, rfl⟩ fnCatch_main rfl fnCatch_plain fnCatch_goes
end Go.Proofs.YtmbnogellhoheaaGreatDoor
