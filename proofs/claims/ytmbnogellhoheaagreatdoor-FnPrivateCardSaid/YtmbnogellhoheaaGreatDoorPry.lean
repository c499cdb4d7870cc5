/- FnPrivate answers true at every slice of bytes, and every argument reads as before: the card, with the listed variables tied to the program's text. It asks only that those variables hold what that text lays in them. -/
import Derived.Test.YtmbnogellhoheaaGreatDoorPrz
import Derived.Test.YtmbnogellhoheaaGreatDoorPrw
import Derived.Test.YtmbnogellhoheaaGreatDoorPrt
import Derived.Test.YtmbnogellhoheaaGreatDoorPrj
import Derived.Test.YtmbnogellhoheaaGreatDoorPrk
import Derived.Test.YtmbnogellhoheaaGreatDoorCards
namespace Go.Proofs.YtmbnogellhoheaaGreatDoor
open Go.ChangeShapes Go.WideShapes Go.ChangeAt Go.RowKit
set_option maxRecDepth 100000 in
theorem fnPrivate_lifted (os : Os) (started : os.Started) (H : Type) (enc : TypeId × Value → H) (F : Stop.Interp) :
    ReturnsInHanded {} Tryz.checked os 13 .any ((OpenSpec.ofChange Rows.fnPrivateSpec).preRow enc Tryz.prog Tryz.f13 Rows.fnPrivateRow.domain false Rows.fnPrivateRow.laid) (((OpenSpec.ofChange Rows.fnPrivateSpec).at F).post enc Tryz.prog Tryz.f13 false true false false) := by
  refine returnsInHanded_of_row (C := Tryz.checked) (s := OpenSpec.ofChange Rows.fnPrivateSpec) Wit.own started Wit.noInit Tryz.func13 (Wit.witness os enc) ?_
  intro W base args ds gs before hval hW _ _ _ hL hS _
  exact Run.contract H enc W base args ds gs before hval hW hL hS
theorem fnPrivate_said : Rows.FnPrivateSaid :=
  OpenClaim.holds_of_cond 13 Tryz.f13 rfl rfl rfl rfl rfl rfl rfl ⟨rfl, rfl, rfl, rfl, rfl⟩ rfl rfl rfl rfl rfl fnPrivate_named Tryz.func13 fnPrivate_facts fnPrivate_inst fnPrivate_wrap
    (fun os started H enc _ F => by rw [OpenClaim.pre_eq_preRow]; exact fnPrivate_lifted os started H enc F)
theorem fnPrivate_plain (f : FuncId) (fn : Func) (hf : Tryz.pinned.checked.prog.funcNamed "loop.example/stowage/laws.FnPrivate" = some f) (hfn : Tryz.pinned.checked.prog.funcs[f]? = some fn) :
    true = Tryz.pinned.checked.prog.looks [] ∧ ∀ (j : Nat) t, fn.params[j]? = some t → Tryz.pinned.checked.prog.wantsStandIn t = false := by
  obtain rfl : f = 13 := Option.some.inj (fnPrivate_named.symm.trans hf) |>.symm
  obtain rfl : fn = Tryz.f13 := (Option.some.inj (Tryz.func13.symm.trans hfn)).symm
  refine ⟨noLooks, fun j t ht => ?_⟩
  rw [Run.params3] at ht
  obtain rfl : t = 22 := by simpa using Array.mem_of_getElem? ht
  exact noStand
theorem fnPrivate_card : Rows.FnPrivateCardSaid :=
  Claim7.holds_tied_plain_at .later [] _ _ _ _ fnPrivate_said (fun _ h => by cases h) fnPrivate_wf (fun _ h => by cases h) EvTie.fnPrivate_tied rfl ⟨rfl, rfl⟩ fnPrivate_main rfl fnPrivate_plain fnPrivate_goes
end Go.Proofs.YtmbnogellhoheaaGreatDoor
