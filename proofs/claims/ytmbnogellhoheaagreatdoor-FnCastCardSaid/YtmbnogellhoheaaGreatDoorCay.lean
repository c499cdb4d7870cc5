/- FnCast answers true at every slice of bytes, and every argument reads as before: the card, with the listed variables tied to the program's text. It asks only that those variables hold what that text lays in them. -/
import Derived.Test.YtmbnogellhoheaaGreatDoorCaz
import Derived.Test.YtmbnogellhoheaaGreatDoorCaw
import Derived.Test.YtmbnogellhoheaaGreatDoorCat
import Derived.Test.YtmbnogellhoheaaGreatDoorCaj
import Derived.Test.YtmbnogellhoheaaGreatDoorCak
import Derived.Test.YtmbnogellhoheaaGreatDoorCards
namespace Go.Proofs.YtmbnogellhoheaaGreatDoor
open Go.ChangeShapes Go.WideShapes Go.ChangeAt Go.RowKit
set_option maxRecDepth 100000 in
theorem fnCast_lifted (os : Os) (started : os.Started) (H : Type) (enc : TypeId × Value → H) (F : Stop.Interp) :
    ReturnsInHanded {} Tryz.checked os 7 .any ((OpenSpec.ofChange Rows.fnCastSpec).preRow enc Tryz.prog Tryz.f7 Rows.fnCastRow.domain false Rows.fnCastRow.laid) (((OpenSpec.ofChange Rows.fnCastSpec).at F).post enc Tryz.prog Tryz.f7 false true false false) := by
  refine returnsInHanded_of_row (C := Tryz.checked) (s := OpenSpec.ofChange Rows.fnCastSpec) Wit.own started Wit.noInit Tryz.func7 (Wit.witness os enc) ?_
  intro W base args ds gs before hval hW _ _ _ hL hS _
  exact Run.contract H enc W base args ds gs before hval hW hL hS
theorem fnCast_said : Rows.FnCastSaid :=
  OpenClaim.holds_of_cond 7 Tryz.f7 rfl rfl rfl rfl rfl rfl rfl ⟨rfl, rfl, rfl, rfl, rfl⟩ rfl rfl rfl rfl rfl fnCast_named Tryz.func7 fnCast_facts fnCast_inst fnCast_wrap
    (fun os started H enc _ F => by rw [OpenClaim.pre_eq_preRow]; exact fnCast_lifted os started H enc F)
theorem fnCast_plain (f : FuncId) (fn : Func) (hf : Tryz.pinned.checked.prog.funcNamed "loop.example/stowage/laws.FnCast" = some f) (hfn : Tryz.pinned.checked.prog.funcs[f]? = some fn) :
    true = Tryz.pinned.checked.prog.looks [] ∧ ∀ (j : Nat) t, fn.params[j]? = some t → Tryz.pinned.checked.prog.wantsStandIn t = false := by
  obtain rfl : f = 7 := Option.some.inj (fnCast_named.symm.trans hf) |>.symm
  obtain rfl : fn = Tryz.f7 := (Option.some.inj (Tryz.func7.symm.trans hfn)).symm
  refine ⟨noLooks, fun j t ht => ?_⟩
  rw [Run.params3] at ht
  obtain rfl : t = 22 := by simpa using Array.mem_of_getElem? ht
  exact noStand
theorem fnCast_card : Rows.FnCastCardSaid :=
  Claim7.holds_tied_plain_at .later [] _ _ _ _ fnCast_said (fun _ h => by cases h) fnCast_wf (fun _ h => by cases h) EvTie.fnCast_tied rfl ⟨rfl, rfl⟩ fnCast_main rfl fnCast_plain fnCast_goes
end Go.Proofs.YtmbnogellhoheaaGreatDoor
