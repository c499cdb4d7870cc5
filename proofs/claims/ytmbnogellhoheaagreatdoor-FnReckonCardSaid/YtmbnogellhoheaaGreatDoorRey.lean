/- FnReckon answers true at every slice of bytes, and every argument reads as before: the card, with the listed variables tied to the program's text. It asks only that those variables hold what that text lays in them. -/
import Derived.Test.YtmbnogellhoheaaGreatDoorRez
import Derived.Test.YtmbnogellhoheaaGreatDoorRew
import Derived.Test.YtmbnogellhoheaaGreatDoorRet
import Derived.Test.YtmbnogellhoheaaGreatDoorRej
import Derived.Test.YtmbnogellhoheaaGreatDoorRej0
import Derived.Test.YtmbnogellhoheaaGreatDoorCards
namespace Go.Proofs.YtmbnogellhoheaaGreatDoor
open Go.ChangeShapes Go.WideShapes Go.ChangeAt Go.RowKit
set_option maxRecDepth 100000 in
theorem fnReckon_lifted (os : Os) (started : os.Started) (H : Type) (enc : TypeId × Value → H) (F : Stop.Interp) :
    ReturnsInHanded {} Tryz.checked os 14 .any ((OpenSpec.ofChange Rows.fnReckonSpec).preRow enc Tryz.prog Tryz.f14 Rows.fnReckonRow.domain false Rows.fnReckonRow.laid) (((OpenSpec.ofChange Rows.fnReckonSpec).at F).post enc Tryz.prog Tryz.f14 false true false false) := by
  refine returnsInHanded_of_row (C := Tryz.checked) (s := OpenSpec.ofChange Rows.fnReckonSpec) Wit.own started Wit.noInit Tryz.func14 (Wit.witness os enc) ?_
  intro W base args ds gs before hval hW _ _ _ hL hS _
  exact Run.contract H enc W base args ds gs before hval hW hL hS
theorem fnReckon_said : Rows.FnReckonSaid :=
  OpenClaim.holds_of_cond 14 Tryz.f14 rfl rfl rfl rfl rfl rfl rfl ⟨rfl, rfl, rfl, rfl, rfl⟩ rfl rfl rfl rfl rfl fnReckon_named Tryz.func14 fnReckon_facts fnReckon_inst fnReckon_wrap
    (fun os started H enc _ F => by rw [OpenClaim.pre_eq_preRow]; exact fnReckon_lifted os started H enc F)
theorem fnReckon_plain (f : FuncId) (fn : Func) (hf : Tryz.pinned.checked.prog.funcNamed "loop.example/stowage/laws.FnReckon" = some f) (hfn : Tryz.pinned.checked.prog.funcs[f]? = some fn) :
    true = Tryz.pinned.checked.prog.looks [] ∧ ∀ (j : Nat) t, fn.params[j]? = some t → Tryz.pinned.checked.prog.wantsStandIn t = false := by
  obtain rfl : f = 14 := Option.some.inj (fnReckon_named.symm.trans hf) |>.symm
  obtain rfl : fn = Tryz.f14 := (Option.some.inj (Tryz.func14.symm.trans hfn)).symm
  refine ⟨noLooks, fun j t ht => ?_⟩
  rw [Run.params3] at ht
  obtain rfl : t = 22 := by simpa using Array.mem_of_getElem? ht
  exact noStand
theorem fnReckon_card : Rows.FnReckonCardSaid :=
  Claim7.holds_tied_plain_at .later [] _ _ _ _ fnReckon_said (fun _ h => by cases h) fnReckon_wf (fun _ h => by cases h) EvTie.fnReckon_tied rfl ⟨rfl, rfl⟩ fnReckon_main rfl fnReckon_plain fnReckon_goes
end Go.Proofs.YtmbnogellhoheaaGreatDoor
